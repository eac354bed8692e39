/- Names as texts: what is read, what is written, labels joined; small and great letters; plain lists of bytes. -/
import Derived.Test.YtoocmjdnboldhaaNlA
namespace Go.Proofs.Ytoocmjdnboldhaa.Nl
set_option linter.unusedVariables false
set_option linter.unusedSimpArgs false
def Isd (c : UInt8) : Prop := 48 ≤ c.toNat ∧ c.toNat ≤ 57
instance (c : UInt8) : Decidable (Isd c) := by unfold Isd; infer_instance
def Plain (c : UInt8) : Prop := 33 ≤ c.toNat ∧ c.toNat ≤ 126 ∧ c.toNat ≠ 46 ∧ c.toNat ≠ 92
instance (c : UInt8) : Decidable (Plain c) := by unfold Plain; infer_instance
def num3 (a b d : UInt8) : Nat := 100 * (a.toNat - 48) + 10 * (b.toNat - 48) + (d.toNat - 48)
def esc2 (a : UInt8) : T → Option (UInt8 × Nat)
  | b :: d :: _ => if Isd a ∧ Isd b ∧ Isd d ∧ num3 a b d ≤ 255 then some (UInt8.ofNat (num3 a b d), 3) else none
  | _ => none
def esc : T → Option (UInt8 × Nat)
  | [] => none
  | a :: r => if a.toNat = 46 ∨ a.toNat = 92 then some (a, 1) else esc2 a r
theorem esc_cons (a : UInt8) (r : T) : esc (a :: r) = if a.toNat = 46 ∨ a.toNat = 92 then some (a, 1) else esc2 a r := rfl
def readS : Nat → T → List T → T → Option (List T)
  | 0, _, _, _ => none
  | _ + 1, [], ls, b => if b = [] then (if ls = [] then none else some ls) else some (ls ++ [b])
  | n + 1, c :: t, ls, b => if c.toNat = 46 then readS n t (ls ++ [b]) [] else if c.toNat = 92 then (match esc t with | none => none | some (x, m) => readS n (t.drop m) ls (b ++ [x])) else if Plain c then readS n t ls (b ++ [c]) else none
def bad (x : T) : Bool := decide (x.length = 0 ∨ x.length > 63)
def joinS (ls : List T) : T × Int := match ls.find? bad with
  | some x => ([], if x.length = 0 then 4 else 3)
  | none => if (enc ls).length > 255 then ([], 3) else (lowT (enc ls), 0)
def parseS (t : T) : T × Int := if t = [46] then ([0], 0) else match readS (t.length + 1) t [] [] with
  | none => ([], 4)
  | some ls => if [] ∈ ls then ([], 4) else joinS ls
def pr (c : UInt8) : T := if c.toNat = 46 ∨ c.toNat = 92 then [92, c] else if 33 ≤ c.toNat ∧ c.toNat ≤ 126 then [c] else [92, UInt8.ofNat (48 + c.toNat / 100), UInt8.ofNat (48 + c.toNat / 10 % 10), UInt8.ofNat (48 + c.toNat % 10)]
def prL (x : T) : T := x.flatMap pr ++ [46]
def prS (ls : List T) : T := ls.flatMap prL
def printS (n : T) : T × Int := match nm n with
  | none => ([], 10)
  | some ls => (if ls.length = 0 then [46] else prS ls, 0)

theorem low_nat (c : UInt8) : (low c).toNat = if 65 ≤ c.toNat ∧ c.toNat ≤ 90 then c.toNat + 32 else c.toNat := by
  unfold low
  by_cases h : 65 ≤ c.toNat ∧ c.toNat ≤ 90
  · rw [if_pos h, if_pos h]; simp; omega
  · rw [if_neg h, if_neg h]
theorem low_low (c : UInt8) : low (low c) = low c := by
  rw [← UInt8.toNat_inj, low_nat (low c), low_nat c]; (repeat' split) <;> omega
theorem lowT_low (t : T) : lowT (lowT t) = lowT t := by
  unfold lowT; rw [List.map_map]; apply List.map_congr_left; intro c _; exact low_low c
theorem lowT_len (t : T) : (lowT t).length = t.length := by unfold lowT; simp
theorem lowT_app (a b : T) : lowT (a ++ b) = lowT a ++ lowT b := by unfold lowT; simp
theorem lowT_nil (t : T) : lowT t = [] ↔ t = [] := by unfold lowT; simp
theorem low_46 (c : UInt8) : (low c).toNat = 46 ↔ c.toNat = 46 := by rw [low_nat]; split <;> omega
theorem low_92 (c : UInt8) : (low c).toNat = 92 ↔ c.toNat = 92 := by rw [low_nat]; split <;> omega
theorem low_isd (c : UInt8) : Isd (low c) ↔ Isd c := by unfold Isd; rw [low_nat]; split <;> omega
theorem low_plain (c : UInt8) : Plain (low c) ↔ Plain c := by unfold Plain; rw [low_nat]; split <;> omega
theorem low_same (c : UInt8) (h : ¬ (65 ≤ c.toNat ∧ c.toNat ≤ 90)) : low c = c := by unfold low; rw [if_neg h]
theorem low_ofNat {n : Nat} (h : n ≤ 63) : low (UInt8.ofNat n) = UInt8.ofNat n := low_same _ (by rw [ofNat_toNat (by omega)]; omega)
theorem esc_low (t : T) : esc (lowT t) = esc t := by
  cases t with
  | nil => rfl
  | cons a r =>
    show esc (low a :: lowT r) = _
    rw [esc_cons, esc_cons]
    by_cases h : a.toNat = 46 ∨ a.toNat = 92
    · have h' : (low a).toNat = 46 ∨ (low a).toNat = 92 := by rw [low_46, low_92]; exact h
      rw [if_pos h, if_pos h', low_same a (by omega)]
    · have h' : ¬ ((low a).toNat = 46 ∨ (low a).toNat = 92) := by rw [low_46, low_92]; exact h
      rw [if_neg h, if_neg h']
      cases r with
      | nil => rfl
      | cons b r =>
        cases r with
        | nil => rfl
        | cons d r =>
          show (if Isd (low a) ∧ Isd (low b) ∧ Isd (low d) ∧ num3 (low a) (low b) (low d) ≤ 255 then some (UInt8.ofNat (num3 (low a) (low b) (low d)), 3) else none) = _
          by_cases hd : Isd a ∧ Isd b ∧ Isd d
          · obtain ⟨h1, h2, h3⟩ := hd
            rw [low_same a (by unfold Isd at h1; omega), low_same b (by unfold Isd at h2; omega), low_same d (by unfold Isd at h3; omega)]; rfl
          · rw [if_neg (fun e => hd ⟨(low_isd a).1 e.1, (low_isd b).1 e.2.1, (low_isd d).1 e.2.2.1⟩)]
            symm; exact if_neg (fun e => hd ⟨e.1, e.2.1, e.2.2.1⟩)
theorem lowT_drop (t : T) (m : Nat) : lowT (t.drop m) = (lowT t).drop m := by unfold lowT; simp
/-- What is read of a text in small letters differs in its letters' size alone. -/
theorem read_low : ∀ (n : Nat) (t : T) (ls ls' : List T) (b b' : T), ls.map lowT = ls'.map lowT → lowT b = lowT b' →
    (readS n t ls b).map (List.map lowT) = (readS n (lowT t) ls' b').map (List.map lowT)
  | 0, t, ls, ls', b, b', _, _ => rfl
  | n + 1, [], ls, ls', b, b', hl, hb => by
    show (if b = [] then (if ls = [] then none else some ls) else some (ls ++ [b])).map (List.map lowT) = (if b' = [] then (if ls' = [] then none else some ls') else some (ls' ++ [b'])).map (List.map lowT)
    have e1 : b = [] ↔ b' = [] := by rw [← lowT_nil b, hb, lowT_nil]
    have e2 : ls = [] ↔ ls' = [] := by
      rw [← List.map_eq_nil_iff (f := lowT), hl, List.map_eq_nil_iff]
    by_cases h1 : b = []
    · rw [if_pos h1, if_pos (e1.1 h1)]
      by_cases h2 : ls = []
      · rw [if_pos h2, if_pos (e2.1 h2)]
      · rw [if_neg h2, if_neg (fun e => h2 (e2.2 e))]; simp [hl]
    · rw [if_neg h1, if_neg (fun e => h1 (e1.2 e))]; simp [hl, hb]
  | n + 1, c :: t, ls, ls', b, b', hl, hb => by
    show (readS (n + 1) (c :: t) ls b).map _ = (readS (n + 1) (low c :: lowT t) ls' b').map _
    rw [readS, readS]
    by_cases h1 : c.toNat = 46
    · rw [if_pos h1, if_pos ((low_46 c).2 h1)]
      exact read_low n t _ _ _ _ (by simp [hl, hb]) rfl
    · rw [if_neg h1, if_neg (fun e => h1 ((low_46 c).1 e))]
      by_cases h2 : c.toNat = 92
      · rw [if_pos h2, if_pos ((low_92 c).2 h2), esc_low]
        cases esc t with
        | none => rfl
        | some p => obtain ⟨x, m⟩ := p; simp only; rw [← lowT_drop]; exact read_low n _ _ _ _ _ hl (by rw [lowT_app, lowT_app, hb])
      · rw [if_neg h2, if_neg (fun e => h2 ((low_92 c).1 e))]
        by_cases h3 : Plain c
        · rw [if_pos h3, if_pos ((low_plain c).2 h3)]
          exact read_low n t _ _ _ _ hl (by rw [lowT_app, lowT_app, hb]; congr 1; simp [lowT, low_low])
        · rw [if_neg h3, if_neg (fun e => h3 ((low_plain c).1 e))]
theorem enc_low {ls : List T} (h : ∀ x ∈ ls, x.length ≤ 63) : lowT (enc ls) = enc (ls.map lowT) := by
  induction ls with
  | nil => rfl
  | cons x ls ih =>
    rw [enc_cons, List.map_cons, enc_cons, ← ih (fun y hy => h y (by simp [hy])), lowT_len]
    show low _ :: lowT _ = _
    rw [low_ofNat (h x (by simp)), lowT_app]
theorem enc_len_low (ls : List T) : (enc (ls.map lowT)).length = (enc ls).length := by
  induction ls with
  | nil => rfl
  | cons x ls ih => rw [List.map_cons, enc_len_cons, enc_len_cons, ih, lowT_len]
theorem bad_low (x : T) : bad (lowT x) = bad x := by unfold bad; rw [lowT_len]
theorem find_bad (ls : List T) : (ls.map lowT).find? bad = (ls.find? bad).map lowT := by
  induction ls with
  | nil => rfl
  | cons x ls ih =>
    rw [List.map_cons, List.find?_cons, List.find?_cons, bad_low]
    cases bad x
    · exact ih
    · rfl
theorem no_bad {ls : List T} (h : ls.find? bad = none) : ∀ x ∈ ls, 1 ≤ x.length ∧ x.length ≤ 63 := by
  intro x hx
  rw [List.find?_eq_none] at h
  have := h x hx
  unfold bad at this
  have h' : ¬ (x.length = 0 ∨ x.length > 63) := by simpa using this
  omega
theorem join_low (ls : List T) : joinS (ls.map lowT) = joinS ls := by
  unfold joinS
  rw [find_bad]
  cases h : ls.find? bad with
  | some x => simp only [Option.map_some, lowT_len]
  | none =>
    simp only [Option.map_none, enc_len_low]
    by_cases h2 : (enc ls).length > 255
    · rw [if_pos h2, if_pos h2]
    · rw [if_neg h2, if_neg h2, ← enc_low (fun x hx => (no_bad h x hx).2), lowT_low]
theorem join_ok {ls : List T} (h : (joinS ls).2 = 0) : joinS ls = (enc (ls.map lowT), 0) ∧ Nm (ls.map lowT) := by
  unfold joinS at h ⊢
  cases hf : ls.find? bad with
  | some x => rw [hf] at h; simp only at h; split at h <;> cases h
  | none =>
    rw [hf] at h; simp only at h ⊢
    have hb := no_bad hf
    by_cases h2 : (enc ls).length > 255
    · rw [if_pos h2] at h; cases h
    · rw [if_neg h2, enc_low (fun x hx => (hb x hx).2)]
      refine ⟨rfl, fun x hx => ?_, by rw [enc_len_low]; omega⟩
      obtain ⟨y, hy, rfl⟩ := List.mem_map.1 hx
      exact ⟨by rw [lowT_len]; exact (hb y hy).1, by rw [lowT_len]; exact (hb y hy).2, lowT_low y⟩
theorem join_bad {ls : List T} (h : (joinS ls).2 ≠ 0) : (joinS ls).1 = [] := by
  unfold joinS at h ⊢
  cases hf : ls.find? bad with
  | some x => rfl
  | none =>
    rw [hf] at h; simp only at h ⊢
    by_cases h2 : (enc ls).length > 255
    · rw [if_pos h2]
    · rw [if_neg h2] at h; exact absurd rfl h
theorem join_wf {ls : List T} (h : Nm ls) : joinS ls = (enc ls, 0) := by
  have hf : ls.find? bad = none := by
    rw [List.find?_eq_none]; intro x hx; have := h.1 x hx; unfold bad; simp; unfold Wf at this; constructor
    · rintro rfl; simp at this
    · exact this.2.1
  have hm : ls.map lowT = ls := by
    have : ls.map lowT = ls.map id := List.map_congr_left (fun x hx => (h.1 x hx).2.2)
    rw [this, List.map_id]
  unfold joinS; rw [hf]; simp only
  rw [if_neg (by have := h.2; omega), enc_low (fun x hx => (h.1 x hx).2.1), hm]
theorem nil_low (ls : List T) : [] ∈ ls.map lowT ↔ [] ∈ ls := by
  rw [List.mem_map]
  constructor
  · rintro ⟨x, hx, e⟩; rw [lowT_nil] at e; rw [← e]; exact hx
  · intro h; exact ⟨[], h, rfl⟩
theorem parse_low (t : T) : parseS (lowT t) = parseS t := by
  unfold parseS
  have e1 : lowT t = [46] ↔ t = [46] := by
    constructor
    · intro h
      cases t with
      | nil => cases h
      | cons c r =>
        have h' : low c :: lowT r = [46] := h
        injection h' with h1 h2
        rw [lowT_nil] at h2
        have : (low c).toNat = 46 := by rw [h1]; rfl
        rw [low_46] at this
        rw [h2, show c = 46 from by rw [← UInt8.toNat_inj]; simpa using this]
    · rintro rfl; rfl
  have h := read_low (t.length + 1) t [] [] [] [] rfl rfl
  rw [lowT_len]
  by_cases h1 : t = [46]
  · rw [if_pos h1, if_pos (e1.2 h1)]
  · rw [if_neg h1, if_neg (fun e => h1 (e1.1 e))]
    cases hr : readS (t.length + 1) t [] [] with
    | none =>
      rw [hr] at h
      cases hr' : readS (t.length + 1) (lowT t) [] [] with
      | none => rfl
      | some l => rw [hr'] at h; cases h
    | some ls =>
      rw [hr] at h
      cases hr' : readS (t.length + 1) (lowT t) [] [] with
      | none => rw [hr'] at h; cases h
      | some ls' =>
        rw [hr'] at h
        simp only [Option.map_some, Option.some.injEq] at h
        simp only
        have e2 : [] ∈ ls ↔ [] ∈ ls' := by rw [← nil_low ls, h, nil_low]
        rw [← join_low ls', ← join_low ls, h]
        by_cases h2 : [] ∈ ls
        · rw [if_pos h2, if_pos (e2.1 h2)]
        · rw [if_neg h2, if_neg (fun e => h2 (e2.2 e))]
theorem parse_ok {t : T} (h : (parseS t).2 = 0) : ∃ ls, nm (parseS t).1 = some ls := by
  unfold parseS at h ⊢
  by_cases h1 : t = [46]
  · rw [if_pos h1]; exact ⟨[], nm_root⟩
  · rw [if_neg h1] at h ⊢
    cases hr : readS (t.length + 1) t [] [] with
    | none => rw [hr] at h; cases h
    | some ls =>
      rw [hr] at h; simp only at h ⊢
      by_cases h2 : [] ∈ ls
      · rw [if_pos h2] at h; cases h
      · rw [if_neg h2] at h ⊢
        obtain ⟨e, hn⟩ := join_ok h
        rw [e]; exact ⟨_, nm_enc hn⟩
theorem parse_bad {t : T} (h : (parseS t).2 ≠ 0) : (parseS t).1 = [] := by
  unfold parseS at h ⊢
  by_cases h1 : t = [46]
  · rw [if_pos h1] at h; exact absurd rfl h
  · rw [if_neg h1] at h ⊢
    cases hr : readS (t.length + 1) t [] [] with
    | none => rfl
    | some ls =>
      rw [hr] at h; simp only at h ⊢
      by_cases h2 : [] ∈ ls
      · rw [if_pos h2]
      · rw [if_neg h2] at h ⊢; exact join_bad h
/-! ### what is written is read again -/
theorem esc_digits (c : UInt8) (r : T) : esc (UInt8.ofNat (48 + c.toNat / 100) :: UInt8.ofNat (48 + c.toNat / 10 % 10) :: UInt8.ofNat (48 + c.toNat % 10) :: r) = some (c, 3) := by
  have hc := c.toNat_lt
  have e1 := ofNat_toNat (n := 48 + c.toNat / 100) (by omega)
  have e2 := ofNat_toNat (n := 48 + c.toNat / 10 % 10) (by omega)
  have e3 := ofNat_toNat (n := 48 + c.toNat % 10) (by omega)
  have hn : num3 (UInt8.ofNat (48 + c.toNat / 100)) (UInt8.ofNat (48 + c.toNat / 10 % 10)) (UInt8.ofNat (48 + c.toNat % 10)) = c.toNat := by
    unfold num3; rw [e1, e2, e3]; omega
  rw [esc_cons, e1, if_neg (by omega), esc2, hn, if_pos (by unfold Isd; rw [e1, e2, e3]; omega)]
  congr 2
  rw [← UInt8.toNat_inj, ofNat_toNat (by omega)]
theorem read_pr (c : UInt8) (t : T) (ls : List T) (b : T) (n : Nat) (hn : (pr c ++ t).length < n) :
    ∃ m, t.length < m ∧ readS n (pr c ++ t) ls b = readS m t ls (b ++ [c]) := by
  obtain ⟨n, rfl⟩ : ∃ m, n = m + 1 := ⟨n - 1, by omega⟩
  unfold pr at hn ⊢
  by_cases h1 : c.toNat = 46 ∨ c.toNat = 92
  · rw [if_pos h1] at hn ⊢
    simp only [List.cons_append, List.nil_append, List.length_cons] at hn ⊢
    refine ⟨n, by omega, ?_⟩
    rw [readS, if_neg (by decide), if_pos (by decide)]
    have : esc (c :: t) = some (c, 1) := by rw [esc_cons, if_pos h1]
    rw [this]; rfl
  · rw [if_neg h1] at hn ⊢
    by_cases h2 : 33 ≤ c.toNat ∧ c.toNat ≤ 126
    · rw [if_pos h2] at hn ⊢
      simp only [List.cons_append, List.nil_append, List.length_cons] at hn ⊢
      refine ⟨n, by omega, ?_⟩
      rw [readS, if_neg (by omega), if_neg (by omega), if_pos (by unfold Plain; omega)]
    · rw [if_neg h2] at hn ⊢
      simp only [List.cons_append, List.nil_append, List.length_cons] at hn ⊢
      refine ⟨n, by omega, ?_⟩
      rw [readS, if_neg (by decide), if_pos (by decide), esc_digits]; rfl
theorem read_prs (x : T) : ∀ (t : T) (ls : List T) (b : T) (n : Nat), (x.flatMap pr ++ t).length < n →
    ∃ m, t.length < m ∧ readS n (x.flatMap pr ++ t) ls b = readS m t ls (b ++ x) := by
  induction x with
  | nil => intro t ls b n hn; exact ⟨n, hn, by simp⟩
  | cons c x ih =>
    intro t ls b n hn
    rw [List.flatMap_cons, List.append_assoc] at hn ⊢
    obtain ⟨m, hm, e⟩ := read_pr c (x.flatMap pr ++ t) ls b n hn
    obtain ⟨m', hm', e'⟩ := ih t ls (b ++ [c]) m hm
    exact ⟨m', hm', by rw [e, e']; simp⟩
theorem read_prS (ls : List T) : ∀ (acc : List T) (n : Nat), (prS ls).length < n → (∃ m, 0 < m ∧ readS n (prS ls) acc [] = readS m [] (acc ++ ls) []) := by
  induction ls with
  | nil => intro acc n hn; exact ⟨n, by omega, by simp [prS]⟩
  | cons x ls ih =>
    intro acc n hn
    have e : prS (x :: ls) = x.flatMap pr ++ (46 :: prS ls) := by simp [prS, prL]
    rw [e] at hn ⊢
    obtain ⟨m, hm, e1⟩ := read_prs x (46 :: prS ls) acc [] n hn
    obtain ⟨m, rfl⟩ : ∃ q, m = q + 1 := ⟨m - 1, by omega⟩
    rw [e1, readS, if_pos (by decide)]
    obtain ⟨q, hq, e2⟩ := ih (acc ++ [[] ++ x]) m (by simp at hm; omega)
    exact ⟨q, hq, by rw [e2]; simp⟩
theorem pr_ne (c : UInt8) : pr c ≠ [] ∧ (pr c).head? ≠ some 46 := by
  unfold pr
  by_cases h1 : c.toNat = 46 ∨ c.toNat = 92
  · rw [if_pos h1]; simp
  · rw [if_neg h1]
    by_cases h2 : 33 ≤ c.toNat ∧ c.toNat ≤ 126
    · rw [if_pos h2]; simp; rintro rfl; exact h1 (.inl rfl)
    · rw [if_neg h2]; simp
theorem print_parse {n : T} {ls : List T} (h : nm n = some ls) : parseS (printS n).1 = (n, 0) := by
  obtain ⟨hN, hn⟩ := nm_some h
  unfold printS; rw [h]; simp only
  cases ls with
  | nil => rw [hn]; rfl
  | cons x ls =>
    rw [if_neg (by simp)]
    have hx := hN.1 x (by simp)
    have hne : prS (x :: ls) ≠ [46] := by
      cases x with
      | nil => unfold Wf at hx; simp at hx
      | cons c x =>
        obtain ⟨h1, h2⟩ := pr_ne c
        cases hp : pr c with
        | nil => exact absurd hp h1
        | cons d r =>
          rw [hp] at h2
          simp only [prS, prL, List.flatMap_cons, hp, List.cons_append]
          intro e; injection e with e1 e2; rw [e1] at h2; exact h2 rfl
    obtain ⟨m, hm, e⟩ := read_prS (x :: ls) [] ((prS (x :: ls)).length + 1) (by omega)
    obtain ⟨m, rfl⟩ : ∃ q, m = q + 1 := ⟨m - 1, by omega⟩
    have hni : ¬ ([] ∈ x :: ls) := by intro hi; have := hN.1 [] hi; unfold Wf at this; simp at this
    unfold parseS
    rw [if_neg hne, e, readS]
    simp only [List.nil_append, if_true]
    rw [if_neg (by simp)]
    simp only
    rw [if_neg hni, join_wf hN, ← hn]
end Go.Proofs.Ytoocmjdnboldhaa.Nl
