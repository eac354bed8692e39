/- Names as lists of labels: what is a name, its labels, their order, what two have in common; plain lists of bytes. -/
import Derived.Sort.Walk0
import Derived.Laws.Strings
namespace Go.Proofs.Ytoocmjdnboldhaa.Nl
set_option linter.unusedVariables false
set_option linter.unusedSimpArgs false

abbrev T := List UInt8
def low (c : UInt8) : UInt8 := if 65 ≤ c.toNat ∧ c.toNat ≤ 90 then UInt8.ofNat (c.toNat + 32) else c
def lowT (t : T) : T := t.map low
def Wf (x : T) : Prop := 1 ≤ x.length ∧ x.length ≤ 63 ∧ lowT x = x
def enc1 (x : T) : T := UInt8.ofNat x.length :: x
def enc (ls : List T) : T := ls.flatMap enc1 ++ [0]
def Nm (ls : List T) : Prop := (∀ x ∈ ls, Wf x) ∧ (enc ls).length ≤ 255
/-- Labels from the front; false: it is no name. -/
def splitS : Nat → T → List T → List T × Bool
  | 0, _, _ => ([], false)
  | _ + 1, [], _ => ([], false)
  | n + 1, c :: t, acc => if c.toNat = 0 then (acc, t == []) else if c.toNat > 63 ∨ c.toNat ≥ t.length + 1 then ([], false) else if lowT (t.take c.toNat) = t.take c.toNat then splitS n (t.drop c.toNat) (acc ++ [t.take c.toNat]) else ([], false)
def nm (t : T) : Option (List T) := if t.length ≤ 255 then (if (splitS 256 t []).2 then some (splitS 256 t []).1 else none) else none

theorem enc_cons (x : T) (ls : List T) : enc (x :: ls) = UInt8.ofNat x.length :: (x ++ enc ls) := by simp [enc, enc1]
theorem enc_nil : enc [] = [0] := rfl
theorem enc_len_pos (ls : List T) : 1 ≤ (enc ls).length := by simp [enc]
theorem enc_len_cons (x : T) (ls : List T) : (enc (x :: ls)).length = (enc ls).length + x.length + 1 := by rw [enc_cons]; simp; omega
theorem ofNat_toNat {n : Nat} (h : n ≤ 255) : (UInt8.ofNat n).toNat = n := by simp; omega

theorem split_enc : ∀ (ls : List T) (n : Nat) (acc : List T), (∀ x ∈ ls, Wf x) → ls.length < n → splitS n (enc ls) acc = (acc ++ ls, true)
  | [], n, acc, _, hn => by
    obtain ⟨n, rfl⟩ : ∃ m, n = m + 1 := ⟨n - 1, by simp at hn; omega⟩
    simp [enc_nil, splitS]
  | x :: ls, n, acc, h, hn => by
    obtain ⟨n, rfl⟩ : ∃ m, n = m + 1 := ⟨n - 1, by simp at hn; omega⟩
    have hx := h x (by simp)
    obtain ⟨h1, h2, h3⟩ := hx
    have hc : (UInt8.ofNat x.length).toNat = x.length := ofNat_toNat (by omega)
    have ht : (x ++ enc ls).take x.length = x := by simp
    have hd : (x ++ enc ls).drop x.length = enc ls := by simp
    rw [enc_cons, splitS, hc, if_neg (by omega), if_neg (by have := enc_len_pos ls; simp; omega), ht, hd, if_pos h3, split_enc ls n _ (fun y hy => h y (by simp [hy])) (by simp at hn; omega)]
    simp
theorem split_true : ∀ (n : Nat) (t : T) (acc r : List T), splitS n t acc = (r, true) → ∃ ls, r = acc ++ ls ∧ (∀ x ∈ ls, Wf x) ∧ t = enc ls
  | 0, t, acc, r, h => by simp [splitS] at h
  | n + 1, [], acc, r, h => by simp [splitS] at h
  | n + 1, c :: t, acc, r, h => by
    rw [splitS] at h
    by_cases hc : c.toNat = 0
    · rw [if_pos hc] at h
      injection h with h1 h2
      have : t = [] := by simpa using h2
      subst this
      have : c = 0 := by rw [← UInt8.toNat_inj]; simpa using hc
      exact ⟨[], by simp [h1], by simp, by rw [this]; rfl⟩
    · rw [if_neg hc] at h
      by_cases hb : c.toNat > 63 ∨ c.toNat ≥ t.length + 1
      · rw [if_pos hb] at h; simp at h
      · rw [if_neg hb] at h
        by_cases hl : lowT (t.take c.toNat) = t.take c.toNat
        · rw [if_pos hl] at h
          obtain ⟨ls, hr, hw, ht⟩ := split_true n _ _ r h
          have hlen : (t.take c.toNat).length = c.toNat := by rw [List.length_take]; omega
          refine ⟨t.take c.toNat :: ls, by rw [hr]; simp, ?_, ?_⟩
          · intro x hx
            rcases List.mem_cons.1 hx with rfl | hx
            · exact ⟨by omega, by omega, hl⟩
            · exact hw x hx
          · rw [enc_cons, hlen, ← ht, List.take_append_drop]
            congr 1
            rw [← UInt8.toNat_inj, ofNat_toNat (by omega)]
        · rw [if_neg hl] at h; simp at h
theorem labels_le (ls : List T) : ls.length + 1 ≤ (enc ls).length := by
  induction ls with
  | nil => simp [enc_nil]
  | cons x ls ih => rw [enc_len_cons]; simp; omega
theorem nm_enc {ls : List T} (h : Nm ls) : nm (enc ls) = some ls := by
  unfold nm
  have := labels_le ls
  rw [if_pos h.2, split_enc ls 256 [] h.1 (by have := h.2; omega)]; simp
theorem nm_some {t : T} {ls : List T} (h : nm t = some ls) : Nm ls ∧ t = enc ls := by
  unfold nm at h
  by_cases h1 : t.length ≤ 255
  · rw [if_pos h1] at h
    by_cases h2 : (splitS 256 t []).2 = true
    · rw [if_pos h2] at h
      injection h with h
      obtain ⟨l', hr, hw, ht⟩ := split_true 256 t [] ls (by rw [← h, ← h2])
      have : l' = ls := by rw [hr]; simp
      subst this
      exact ⟨⟨hw, by rw [← ht]; exact h1⟩, ht⟩
    · rw [if_neg h2] at h; cases h
  · rw [if_neg h1] at h; cases h
theorem nm_iff {t : T} {ls : List T} : nm t = some ls ↔ Nm ls ∧ t = enc ls := ⟨nm_some, fun ⟨h, e⟩ => e ▸ nm_enc h⟩
theorem enc_inj {a b : List T} (ha : Nm a) (hb : Nm b) (h : enc a = enc b) : a = b := by
  have h1 := nm_enc ha; rw [h, nm_enc hb] at h1; injection h1 with h1; exact h1.symm
theorem Nm_nil : Nm [] := ⟨by simp, by simp [enc_nil]⟩
theorem nm_root : nm [0] = some [] := nm_enc Nm_nil
theorem enc_len_append (a b : List T) : (enc (a ++ b)).length + 1 = (enc a).length + (enc b).length := by
  simp [enc]; omega
theorem Nm_suffix {a b : List T} (hb : Nm b) (h : a <:+ b) : Nm a := by
  obtain ⟨c, rfl⟩ := h
  refine ⟨fun x hx => hb.1 x (by simp [hx]), ?_⟩
  have := enc_len_append c a; have := enc_len_pos c; have := hb.2; omega
theorem Nm_tail {x : T} {a : List T} (h : Nm (x :: a)) : Nm a := Nm_suffix h ⟨[x], rfl⟩

/-! ### the order -/
def cmpT (x y : T) : Int := if x < y then -1 else if y < x then 1 else 0
def cmpL : List T → List T → Int
  | [], [] => 0
  | [], _ :: _ => -1
  | _ :: _, [] => 1
  | x :: xs, y :: ys => if cmpT x y = 0 then cmpL xs ys else cmpT x y
def cmpN (a b : T) : Int := match nm a, nm b with
  | some x, some y => cmpL x.reverse y.reverse
  | none, some _ => 1
  | some _, none => -1
  | none, none => cmpT a b
theorem T_tri (x y : T) : x < y ∨ x = y ∨ y < x := by
  rcases Decidable.em (x < y) with h | h
  · exact .inl h
  · rcases Decidable.em (y < x) with h' | h'
    · exact .inr (.inr h')
    · exact .inr (.inl (List.le_antisymm (Std.not_lt.1 h') (Std.not_lt.1 h)))
theorem T_irr (x : T) : ¬ x < x := List.lt_irrefl x
theorem T_trans {x y z : T} (h : x < y) (h' : y < z) : x < z := List.lt_trans h h'
theorem T_asymm {x y : T} (h : x < y) : ¬ y < x := fun h' => T_irr x (T_trans h h')
theorem cmpT_lt {x y : T} : cmpT x y = -1 ↔ x < y := by
  unfold cmpT; by_cases h : x < y
  · simp [h]
  · rw [if_neg h]; by_cases h' : y < x <;> simp [h, h']
theorem cmpT_gt {x y : T} : cmpT x y = 1 ↔ y < x := by
  unfold cmpT; by_cases h : x < y
  · simp [h, T_asymm h]
  · rw [if_neg h]; by_cases h' : y < x <;> simp [h']
theorem cmpT_eq {x y : T} : cmpT x y = 0 ↔ x = y := by
  unfold cmpT; rcases T_tri x y with h | rfl | h
  · simp [h]; rintro rfl; exact T_irr x h
  · simp [T_irr]
  · simp [h, T_asymm h]; rintro rfl; exact T_irr x h
theorem cmpT_swap (x y : T) : cmpT y x = - cmpT x y := by
  rcases T_tri x y with h | rfl | h
  · rw [cmpT_lt.2 h, cmpT_gt.2 h]; rfl
  · rw [cmpT_eq.2 rfl]; rfl
  · rw [cmpT_lt.2 h, cmpT_gt.2 h]
theorem cmpT_range (x y : T) : cmpT x y = -1 ∨ cmpT x y = 0 ∨ cmpT x y = 1 := by
  unfold cmpT; split
  · simp
  · split <;> simp
theorem cmpL_swap : ∀ (a b : List T), cmpL b a = - cmpL a b
  | [], [] => rfl
  | [], _ :: _ => rfl
  | _ :: _, [] => rfl
  | x :: xs, y :: ys => by
    unfold cmpL; rw [cmpT_swap x y]
    by_cases h : cmpT x y = 0
    · rw [if_pos (by omega), if_pos h, cmpL_swap xs ys]
    · rw [if_neg (by omega), if_neg h]
theorem cmpL_range : ∀ (a b : List T), cmpL a b = -1 ∨ cmpL a b = 0 ∨ cmpL a b = 1
  | [], [] => by simp [cmpL]
  | [], _ :: _ => by simp [cmpL]
  | _ :: _, [] => by simp [cmpL]
  | x :: xs, y :: ys => by
    unfold cmpL; split
    · exact cmpL_range xs ys
    · exact cmpT_range x y
theorem cmpL_eq : ∀ (a b : List T), cmpL a b = 0 ↔ a = b
  | [], [] => by simp [cmpL]
  | [], _ :: _ => by simp [cmpL]
  | _ :: _, [] => by simp [cmpL]
  | x :: xs, y :: ys => by
    unfold cmpL
    by_cases h : cmpT x y = 0
    · rw [if_pos h, cmpL_eq xs ys]; rw [cmpT_eq] at h; simp [h]
    · rw [if_neg h]; constructor
      · intro h'; exact absurd h' h
      · intro h'; injection h' with h1 h2; exact absurd (cmpT_eq.2 h1) h
theorem cmpL_trans : ∀ (a b c : List T), cmpL a b ≤ 0 → cmpL b c ≤ 0 → cmpL a c ≤ 0
  | [], _, [], _, _ => by simp [cmpL]
  | [], _, _ :: _, _, _ => by simp [cmpL]
  | _ :: _, [], _, h, _ => by simp [cmpL] at h
  | _ :: _, _ :: _, [], _, h => by simp [cmpL] at h
  | x :: xs, y :: ys, z :: zs, h1, h2 => by
    unfold cmpL at h1 h2 ⊢
    rcases cmpT_range x y with e1 | e1 | e1 <;> rcases cmpT_range y z with e2 | e2 | e2 <;> simp [e1, e2] at h1 h2
    · have := T_trans (cmpT_lt.1 e1) (cmpT_lt.1 e2); rw [cmpT_lt.2 this]; simp
    · have := cmpT_eq.1 e2; subst this; rw [e1]; simp
    · have := cmpT_eq.1 e1; subst this; rw [e2]; simp
    · have := cmpT_eq.1 e1; subst this; rw [e2]; simp; exact cmpL_trans xs ys zs h1 h2
theorem cmpN_swap (a b : T) : cmpN b a = - cmpN a b := by
  unfold cmpN; cases nm a <;> cases nm b <;> simp [cmpT_swap a b]
  exact cmpL_swap _ _
theorem cmpN_range (a b : T) : cmpN a b = -1 ∨ cmpN a b = 0 ∨ cmpN a b = 1 := by
  unfold cmpN; cases nm a <;> cases nm b <;> simp
  · exact cmpT_range a b
  · exact cmpL_range _ _
theorem cmpN_eq (a b : T) : cmpN a b = 0 ↔ a = b := by
  unfold cmpN
  cases ha : nm a with
  | none =>
    cases hb : nm b with
    | none => exact cmpT_eq
    | some y => simp; rintro rfl; rw [ha] at hb; cases hb
  | some x =>
    cases hb : nm b with
    | none => simp; rintro rfl; rw [ha] at hb; cases hb
    | some y =>
      simp only [cmpL_eq, List.reverse_inj]
      have h1 := (nm_some ha).2; have h2 := (nm_some hb).2
      constructor
      · rintro rfl; rw [h1, h2]
      · rintro rfl; rw [ha] at hb; injection hb
theorem cmpT_trans {a b c : T} (h1 : cmpT a b ≤ 0) (h2 : cmpT b c ≤ 0) : cmpT a c ≤ 0 := by
  have := cmpL_trans [a] [b] [c]
  have f : ∀ x y : T, cmpL [x] [y] = cmpT x y := by
    intro x y; unfold cmpL; split
    · rename_i h; simp [cmpL, h]
    · rfl
  rw [f, f, f] at this; exact this h1 h2
theorem cmpN_trans (a b c : T) (h1 : cmpN a b ≤ 0) (h2 : cmpN b c ≤ 0) : cmpN a c ≤ 0 := by
  unfold cmpN at *
  cases ha : nm a <;> cases hb : nm b <;> cases hc : nm c <;> rw [ha, hb] at h1 <;> rw [hb, hc] at h2 <;> simp at h1 h2 ⊢
  · exact cmpT_trans h1 h2
  · exact cmpL_trans _ _ _ h1 h2

/-! ### under, parents, what two have in common -/
def lcp : List T → List T → List T
  | x :: xs, y :: ys => if x = y then x :: lcp xs ys else []
  | _, _ => []
def comm (a b : List T) : List T := (lcp a.reverse b.reverse).reverse
theorem lcp_left : ∀ (a b : List T), lcp a b <+: a
  | [], _ => by simp [lcp]
  | x :: xs, [] => by simp [lcp]
  | x :: xs, y :: ys => by
    unfold lcp; split
    · exact (List.cons_prefix_cons.2 ⟨rfl, lcp_left xs ys⟩)
    · simp
theorem lcp_comm : ∀ (a b : List T), lcp a b = lcp b a
  | [], [] => rfl
  | [], _ :: _ => rfl
  | _ :: _, [] => rfl
  | x :: xs, y :: ys => by
    unfold lcp
    by_cases h : x = y
    · subst h; rw [if_pos rfl, if_pos rfl, lcp_comm xs ys]
    · rw [if_neg h, if_neg (fun e => h e.symm)]
theorem lcp_max : ∀ (a b c : List T), c <+: a → c <+: b → c <+: lcp a b
  | _, _, [], _, _ => by simp
  | [], _, _ :: _, h, _ => by simp at h
  | _ :: _, [], _ :: _, _, h => by simp at h
  | x :: xs, y :: ys, z :: zs, h1, h2 => by
    rw [List.cons_prefix_cons] at h1 h2
    obtain ⟨rfl, h1⟩ := h1
    obtain ⟨rfl, h2⟩ := h2
    unfold lcp; rw [if_pos rfl]; exact List.cons_prefix_cons.2 ⟨rfl, lcp_max xs ys zs h1 h2⟩
theorem comm_left (a b : List T) : comm a b <:+ a := by
  unfold comm; rw [← List.reverse_prefix, List.reverse_reverse]; exact lcp_left _ _
theorem comm_comm (a b : List T) : comm a b = comm b a := by unfold comm; rw [lcp_comm]
theorem comm_right (a b : List T) : comm a b <:+ b := by rw [comm_comm]; exact comm_left b a
theorem comm_max {a b c : List T} (h1 : c <:+ a) (h2 : c <:+ b) : c <:+ comm a b := by
  unfold comm; rw [← List.reverse_prefix, List.reverse_reverse]
  exact lcp_max _ _ _ (List.reverse_prefix.2 h1) (List.reverse_prefix.2 h2)
theorem comm_eq_right {a b : List T} : comm a b = b ↔ b <:+ a := by
  constructor
  · intro h; rw [← h]; exact comm_left a b
  · intro h; exact (comm_right a b).eq_of_length_le (comm_max h (List.suffix_refl b)).length_le
theorem cmpL_prefix : ∀ (a b : List T), b <+: a → 0 ≤ cmpL a b
  | [], [], _ => by simp [cmpL]
  | [], _ :: _, h => by simp at h
  | _ :: _, [], _ => by simp [cmpL]
  | x :: xs, y :: ys, h => by
    rw [List.cons_prefix_cons] at h
    obtain ⟨rfl, h⟩ := h
    unfold cmpL; rw [if_pos (cmpT_eq.2 rfl)]; exact cmpL_prefix xs ys h
end Go.Proofs.Ytoocmjdnboldhaa.Nl
