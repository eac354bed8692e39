/- What the printed functions Join, Parse, Print and Labels of the package name come to, in plain words on lists of bytes. -/
import Derived.Test.YtoocmjdnboldhaaNlP
import Derived.Test.YtoocmjdnboldhaaNmBNameCase
namespace Go.Proofs.Ytoocmjdnboldhaa.Nl
open Go.RowKit Go.Proofs.Ytoocmjdnboldhaa.PNameCase Go.Proofs.YtoocmjdnboldhaaW.PrintWords Go.Proofs.YtoocmjdnboldhaaW.PrintLast Go.Proofs.YtoocmjdnboldhaaW.PrintMore
set_option linter.unusedVariables false
set_option linter.unusedSimpArgs false
def bi (b : T) : List Int := b.map (fun c => (c.toNat : Int))
theorem bi_nums (b : T) : strOfNums (bi b) = mk b := by
  unfold strOfNums bi mk
  rw [List.map_map]
  congr 2
  have : b.map ((fun n : Int => UInt8.ofNat n.toNat) ∘ fun c : UInt8 => (c.toNat : Int)) = b.map id := List.map_congr_left (fun c _ => by
    show UInt8.ofNat ((c.toNat : Int)).toNat = c
    rw [Int.toNat_natCast, ← UInt8.toNat_inj, ofNat_toNat (by have := c.toNat_lt; omega)])
  rw [this, List.map_id]
theorem bi_len (b : T) : (bi b).length = b.length := by unfold bi; simp
theorem bi_app (b : T) (c : UInt8) : bi b ++ [(c.toNat : Int)] = bi (b ++ [c]) := by unfold bi; simp
theorem mk_nil_iff (t : T) : ((mk t).toList = ([] : List UInt8)) ↔ t = [] := by rw [mk_list]
theorem digit_ref (c : UInt8) : name_digit.f (c.toNat : Int) = some (if Isd c then (c.toNat : Int) - 48 else -1) := by
  have hc := c.toNat_lt
  unfold name_digit.f
  by_cases h1 : c.toNat < 48
  · rw [if_pos (by omega), if_neg (by unfold Isd; omega)]
  · rw [if_neg (by omega)]
    by_cases h2 : c.toNat > 57
    · rw [if_pos (by omega), if_neg (by unfold Isd; omega)]
    · rw [if_neg (by omega), if_pos (by unfold Isd; omega)]; congr 1; omega
theorem esc_step (k : Nat) (t : T) (i : Nat) (h : i < t.length) (hi : i < 3) (x : Int) (h0 : 0 ≤ x) (h1 : x ≤ 100000) :
    name_escape.l0 (k + 1) (mk t) x i = if Isd t[i] then name_escape.l0 k (mk t) (10 * x + ((t[i].toNat : Int) - 48)) ((i + 1 : Nat) : Int) else some (0, 0) := by
  have hc := t[i].toNat_lt
  rw [name_escape.l0, mk_size, if_pos (by omega), if_neg (by omega), if_pos (by omega), if_pos (by omega), mk_bt t i h, digit_ref]
  simp only [Option.bind_some]
  by_cases hd : Isd t[i]
  · rw [if_pos hd, if_pos hd]
    unfold Isd at hd
    rw [if_neg (by omega), wrap_small (n := 10 * x) (by omega) (by omega), wrap_small (n := 10 * x + _) (by omega) (by omega), wrap_succ (by omega)]
  · rw [if_neg hd, if_neg hd, if_pos (by decide)]
theorem esc_out (k : Nat) (t : T) (i : Nat) (h : t.length ≤ i) (hi : i < 3) (x : Int) : name_escape.l0 (k + 1) (mk t) x i = some (0, 0) := by
  rw [name_escape.l0, mk_size, if_pos (by omega), if_pos (by omega)]
theorem esc_end (k : Nat) (t : T) (x : Int) (h0 : 0 ≤ x) : name_escape.l0 (k + 1) (mk t) x (3 : Nat) = some (if x > 255 then (0, 0) else (x, 3)) := by
  rw [name_escape.l0, if_neg (by decide)]
  by_cases h : x > 255
  · rw [if_pos h, if_pos h]
  · rw [if_neg h, if_neg h]; congr 2; omega
def escI (t : T) : Int × Int := match esc t with
  | none => (0, 0)
  | some (x, m) => ((x.toNat : Int), (m : Int))
theorem esc_l0 (k : Nat) (t : T) (hk : 10 ≤ k) : name_escape.l0 k (mk t) 0 0 = some (match esc2 (t.headD 0) t.tail with | none => (0, 0) | some (x, m) => ((x.toNat : Int), (m : Int))) := by
  obtain ⟨k, rfl⟩ : ∃ m, k = m + 4 := ⟨k - 4, by omega⟩
  cases t with
  | nil => exact esc_out _ [] 0 (by simp) (by omega) 0
  | cons a t =>
    have s0 := esc_step (k + 3) (a :: t) 0 (by simp) (by omega) 0 (by omega) (by omega)
    simp only [List.headD_cons, List.tail_cons]
    refine Eq.trans s0 ?_
    show (if Isd a then _ else _) = _
    by_cases ha : Isd a
    · rw [if_pos ha]
      have hb := ha; unfold Isd at hb
      cases t with
      | nil => exact esc_out _ [a] 1 (by simp) (by omega) _
      | cons b t =>
        rw [esc_step (k + 2) (a :: b :: t) 1 (by simp) (by omega) _ (by show (0 : Int) ≤ 10 * 0 + ((a.toNat : Int) - 48); omega) (by show 10 * 0 + ((a.toNat : Int) - 48) ≤ 100000; omega)]
        show (if Isd b then _ else _) = _
        by_cases hb' : Isd b
        · rw [if_pos hb']
          have hc := hb'; unfold Isd at hc
          cases t with
          | nil => exact esc_out _ [a, b] 2 (by simp) (by omega) _
          | cons d t =>
            rw [esc_step (k + 1) (a :: b :: d :: t) 2 (by simp) (by omega) _ (by show (0 : Int) ≤ 10 * (10 * 0 + ((a.toNat : Int) - 48)) + ((b.toNat : Int) - 48); omega) (by show 10 * (10 * 0 + ((a.toNat : Int) - 48)) + ((b.toNat : Int) - 48) ≤ 100000; omega)]
            show (if Isd d then _ else _) = _
            rw [esc2]
            by_cases hd : Isd d
            · rw [if_pos hd]
              have he := hd; unfold Isd at he
              refine Eq.trans (esc_end k _ _ (by show (0 : Int) ≤ 10 * (10 * (10 * 0 + ((a.toNat : Int) - 48)) + ((b.toNat : Int) - 48)) + ((d.toNat : Int) - 48); omega)) ?_
              show some (if 10 * (10 * (10 * 0 + ((a.toNat : Int) - 48)) + ((b.toNat : Int) - 48)) + ((d.toNat : Int) - 48) > 255 then _ else (10 * (10 * (10 * 0 + ((a.toNat : Int) - 48)) + ((b.toNat : Int) - 48)) + ((d.toNat : Int) - 48), 3)) = _
              have hn : 10 * (10 * (10 * 0 + ((a.toNat : Int) - 48)) + ((b.toNat : Int) - 48)) + ((d.toNat : Int) - 48) = (num3 a b d : Int) := by unfold num3; omega
              rw [hn]
              by_cases hm : num3 a b d ≤ 255
              · rw [if_neg (by omega), if_pos ⟨ha, hb', hd, hm⟩]; simp only; rw [ofNat_toNat (by omega)]; rfl
              · rw [if_pos (by omega), if_neg (fun e => hm e.2.2.2)]
            · rw [if_neg hd, if_neg (fun e => hd e.2.2.1)]
        · rw [if_neg hb']
          cases t with
          | nil => rfl
          | cons d t => rw [esc2, if_neg (fun e => hb' e.2.1)]
    · rw [if_neg ha]
      cases t with
      | nil => rfl
      | cons b t => cases t with
        | nil => rfl
        | cons d t => rw [esc2, if_neg (fun e => ha e.1)]
theorem escape_ref (k : Nat) (t : T) (hk : 20 ≤ k) : name_escape.f k (mk t) = some (escI t) := by
  obtain ⟨k, rfl⟩ : ∃ m, k = m + 1 := ⟨k - 1, by omega⟩
  unfold name_escape.f escI
  cases t with
  | nil => rw [if_pos (by rw [mk_list])]; rfl
  | cons a t =>
    have hb : bt (mk (a :: t)) 0 = (a.toNat : Int) := mk_bt (a :: t) 0 (by simp)
    have hs : ((mk (a :: t)).size : Int) = (t.length : Int) + 1 := by rw [mk_size]; simp
    rw [if_neg (by rw [mk_list]; simp), if_pos (by omega), hb, esc_cons]
    by_cases h1 : a.toNat = 46
    · rw [if_pos (by omega), if_pos (Or.inl h1), name_escape.j0, if_pos rfl, if_pos (by omega), hb]; rfl
    · rw [if_neg (by omega)]
      by_cases h2 : a.toNat = 92
      · rw [if_pos (Or.inr h2), name_escape.j0, if_pos (by rw [h2]; rfl), if_pos (by omega), hb]; rfl
      · rw [if_neg (by omega), name_escape.j0, if_neg (by rw [beq_iff_eq]; omega)]
        exact esc_l0 k (a :: t) (by omega)
theorem plain_ref (c : UInt8) (h1 : c.toNat ≠ 46) (h2 : c.toNat ≠ 92) : name_plain.f (c.toNat : Int) = some (decide (Plain c)) := by
  unfold name_plain.f
  by_cases h3 : 33 ≤ c.toNat
  · by_cases h4 : c.toNat ≤ 126
    · rw [if_pos (by omega), if_pos (by omega), if_neg (by omega), decide_eq_true (p := Plain c) ⟨h3, h4, h1, h2⟩]; congr 1; rw [bne_iff_ne]; omega
    · rw [if_pos (by omega), if_neg (by omega), decide_eq_false (p := Plain c) (by unfold Plain; omega)]
  · rw [if_neg (by omega), decide_eq_false (p := Plain c) (by unfold Plain; omega)]
theorem esc2_len {a : UInt8} {t : T} {x : UInt8} {m : Nat} (h : esc2 a t = some (x, m)) : m = 3 ∧ 2 ≤ t.length := by
  cases t with
  | nil => cases h
  | cons b t => cases t with
    | nil => cases h
    | cons d t =>
      rw [esc2] at h
      split at h
      · injection h with h; injection h with _ h; exact ⟨h.symm, by simp⟩
      · cases h
theorem esc_len {t : T} {x : UInt8} {m : Nat} (h : esc t = some (x, m)) : 1 ≤ m ∧ m ≤ t.length := by
  cases t with
  | nil => cases h
  | cons a t =>
    rw [esc_cons] at h
    split at h
    · injection h with h; injection h with _ h; subst h; simp
    · have := esc2_len h; simp; omega
theorem read_l0 : ∀ (n : Nat) (full : T) (i : Nat) (ls : List T) (b : T) (k : Nat), i ≤ full.length → full.length - i < n → full.length ≤ 10000 → n + 30 ≤ k → ls.length + b.length ≤ i →
    name_read.l0 k (mk full) (ls.map mk) (bi b) i = some (match readS n (full.drop i) ls b with | none => ([], false) | some r => (r.map mk, true))
  | 0, _, _, _, _, _, _, h, _, _, _ => by omega
  | n + 1, full, i, ls, b, k, hi, hn, hf, hk, hl => by
    obtain ⟨k, rfl⟩ : ∃ m, k = m + 1 := ⟨k - 1, by omega⟩
    rw [name_read.l0, mk_size, bi_len, List.length_map, bi_nums]
    by_cases he : i = full.length
    · subst he
      rw [if_neg (by omega), List.drop_length]
      show _ = some (match (if b = [] then (if ls = [] then none else some ls) else some (ls ++ [b])) with | none => ([], false) | some r => (r.map mk, true))
      by_cases hb : b = []
      · subst hb
        rw [if_neg (by show ¬ ((0 : Nat) : Int) > 0; omega), if_pos rfl]
        by_cases h0 : ls = []
        · subst h0; rfl
        · rw [if_neg h0, decide_eq_true (by have : 0 < ls.length := List.length_pos_iff.2 h0; omega)]
      · have : 0 < b.length := List.length_pos_iff.2 hb
        rw [if_pos (by omega), if_pos (by omega), if_neg hb]
        simp only [Option.bind_some]
        rw [decide_eq_true (by simp), List.map_append]; rfl
    · have hlt : i < full.length := by omega
      have hd : full.drop i = full[i] :: full.drop (i + 1) := List.drop_eq_getElem_cons hlt
      rw [if_pos (by omega), if_pos (by omega), mk_bt full i hlt, hd, readS, wrap_succ (a := i) (by omega)]
      clear hd
      generalize full[i] = c
      by_cases h1 : c.toNat = 46
      · rw [if_pos (by omega), if_pos (by omega), if_pos h1]
        have := read_l0 n full (i + 1) (ls ++ [b]) [] k (by omega) (by omega) hf (by omega) (by simp; omega)
        rw [List.map_append] at this
        exact this
      · rw [if_neg (by omega), if_neg h1]
        by_cases h2 : c.toNat = 92
        · have e1 : (mk full).extract ((i + 1 : Nat) : Int).toNat full.length = mk (full.drop (i + 1)) := by
            rw [mk_extract, Int.toNat_natCast, List.take_length]
          rw [if_pos (by omega), if_pos (by omega), if_pos (by omega), if_pos h2, e1, escape_ref k _ (by omega)]
          simp only [Option.bind_some]
          unfold escI
          cases hx : esc (full.drop (i + 1)) with
          | none => rfl
          | some p =>
            obtain ⟨x, m⟩ := p
            have hm := esc_len hx
            rw [List.length_drop] at hm
            simp only
            rw [if_neg (by omega), if_pos (by omega), wrap_add (a := i) (b := m) (by omega) (by omega), wrap_succ (a := i + m) (by omega), bi_app, List.drop_drop, show i + 1 + m = i + m + 1 from by omega]
            exact read_l0 n full (i + m + 1) ls (b ++ [x]) k (by omega) (by omega) hf (by omega) (by simp; omega)
        · rw [if_neg (by omega), if_neg h2, plain_ref c h1 h2]
          simp only [Option.bind_some]
          by_cases h3 : Plain c
          · rw [if_pos (by simpa using h3), if_pos h3, if_pos (by omega), bi_app]
            exact read_l0 n full (i + 1) ls (b ++ [c]) k (by omega) (by omega) hf (by omega) (by simp; omega)
          · rw [if_neg (by simpa using h3), if_neg h3]
theorem read_ref (t : T) (k : Nat) (ht : t.length ≤ 10000) (hk : t.length + 40 ≤ k) : name_read.f k (mk t) = some (match readS (t.length + 1) t [] [] with | none => ([], false) | some r => (r.map mk, true)) :=
  read_l0 (t.length + 1) t 0 [] [] k (by omega) (by omega) ht (by omega) (by simp)
theorem index_l0 (ls : List T) (hl : ls.length ≤ 100000) : ∀ (d i k : Nat), i + d = ls.length → d < k → ∃ r, slices_Index_string_string.l0 k (ls.map mk) ⟨#[]⟩ (ls.length : Int) i = some r ∧ (r ≥ 0 ↔ [] ∈ ls.drop i)
  | 0, i, k, hi, hk => by
    obtain ⟨k, rfl⟩ : ∃ m, k = m + 1 := ⟨k - 1, by omega⟩
    refine ⟨-1, ?_, ?_⟩
    · rw [slices_Index_string_string.l0, if_neg (by omega)]
    · rw [List.drop_eq_nil_of_le (by omega)]; simp
  | d + 1, i, k, hi, hk => by
    obtain ⟨k, rfl⟩ : ∃ m, k = m + 1 := ⟨k - 1, by omega⟩
    have hlt : i < ls.length := by omega
    have hd : ls.drop i = ls[i] :: ls.drop (i + 1) := List.drop_eq_getElem_cons hlt
    rw [slices_Index_string_string.l0, if_pos (by omega), if_pos (by omega), if_pos (by rw [List.length_map]; omega), rdOf_map ls i hlt, mk_list]
    by_cases h : (⟨#[]⟩ : ByteArray).toList = ls[i]
    · rw [if_pos h]
      have h' : ([] : T) = ls[i] := Eq.trans (mk_list []).symm h
      refine ⟨(i : Int), rfl, ?_⟩
      rw [hd, ← h']
      constructor
      · intro _; simp
      · intro _; omega
    · rw [if_neg h, wrap_succ (by omega)]
      obtain ⟨r, e, hr⟩ := index_l0 ls hl d (i + 1) k (by omega) (by omega)
      refine ⟨r, e, hr.trans ?_⟩
      have h' : ¬ ([] : T) = ls[i] := fun e => h (Eq.trans (mk_list []) e)
      rw [hd, List.mem_cons]
      exact ⟨fun e => .inr e, fun e => e.elim (fun e => absurd e h') id⟩
theorem contains_ref (ls : List T) (k : Nat) (hl : ls.length ≤ 100000) (hk : ls.length < k) : slices_Contains_string_string.f k (ls.map mk) ⟨#[]⟩ = some (decide ([] ∈ ls)) := by
  obtain ⟨r, e, hr⟩ := index_l0 ls hl ls.length 0 k (by omega) hk
  unfold slices_Contains_string_string.f slices_Index_string_string.f
  rw [List.length_map]
  have e' : slices_Index_string_string.l0 k (ls.map mk) ⟨#[]⟩ (ls.length : Int) 0 = some r := e
  rw [e']
  simp only [Option.bind_some]
  rw [List.drop_zero] at hr
  congr 1
  exact decide_eq_decide.2 hr
theorem join_l0 (ls : List T) (hl : ls.length ≤ 100000) (he : (enc ls).length ≤ 1000000) : ∀ (d i k : Nat), i + d = ls.length → d < k → name_Join.l0 k (ls.map mk) (ls.map mk) (ls.length : Int) i =
    some (match (ls.drop i).find? bad with | some x => (mk [], if x.length = 0 then 4 else 3) | none => if (enc ls).length > 255 then (mk [], 3) else (mk (lowT (enc ls)), 0))
  | 0, i, k, hi, hk => by
    obtain ⟨k, rfl⟩ : ∃ m, k = m + 1 := ⟨k - 1, by omega⟩
    rw [name_Join.l0, if_neg (by omega), List.drop_eq_nil_of_le (by omega), joined_ref ls he]
    simp only [Option.bind_some, List.find?_nil]
    rw [lower_ref _ he]
    simp only [Option.bind_some]
    rw [mk_size, lowT_len]
    by_cases h : (enc ls).length > 255
    · rw [if_pos (by omega), if_pos h]; rfl
    · rw [if_neg (by omega), if_neg h]
  | d + 1, i, k, hi, hk => by
    obtain ⟨k, rfl⟩ : ∃ m, k = m + 1 := ⟨k - 1, by omega⟩
    have hlt : i < ls.length := by omega
    have hd : ls.drop i = ls[i] :: ls.drop (i + 1) := List.drop_eq_getElem_cons hlt
    rw [name_Join.l0, if_pos (by omega), if_pos (by omega), if_pos (by rw [List.length_map]; omega), rdOf_map ls i hlt, mk_list, mk_size, hd, List.find?_cons]
    by_cases h1 : ls[i] = []
    · rw [if_pos h1, h1]; rfl
    · have hp : 0 < ls[i].length := List.length_pos_iff.2 h1
      rw [if_neg h1]
      by_cases h2 : ls[i].length > 63
      · have hb : bad ls[i] = true := by unfold bad; exact decide_eq_true (.inr h2)
        rw [if_pos (by omega), hb]; simp only; rw [if_neg (by omega)]; rfl
      · have hb : bad ls[i] = false := by unfold bad; exact decide_eq_false (by omega)
        rw [if_neg (by omega), hb, wrap_succ (by omega)]
        exact join_l0 ls hl he d (i + 1) k (by omega) (by omega)
theorem join_ref (ls : List T) (k : Nat) (hl : ls.length ≤ 100000) (he : (enc ls).length ≤ 1000000) (hk : ls.length < k) : name_Join.f k (ls.map mk) = some (mk (joinS ls).1, (joinS ls).2) := by
  unfold name_Join.f
  rw [List.length_map]
  refine Eq.trans (join_l0 ls hl he ls.length 0 k (by omega) hk) ?_
  unfold joinS
  rw [List.drop_zero]
  cases ls.find? bad with
  | some x => rfl
  | none => simp only; by_cases h : (enc ls).length > 255
            · rw [if_pos h, if_pos h]
            · rw [if_neg h, if_neg h]
theorem enc_app (a : List T) (b : T) : (enc (a ++ [b])).length = (enc a).length + b.length + 1 := by
  induction a with
  | nil => rw [List.nil_append, enc_len_cons]
  | cons x a ih => rw [List.cons_append, enc_len_cons, enc_len_cons, ih]; omega
theorem read_len : ∀ (n : Nat) (t : T) (ls : List T) (b : T) (r : List T), readS n t ls b = some r → (enc r).length ≤ (enc ls).length + b.length + t.length + 1
  | 0, _, _, _, _, h => by cases h
  | n + 1, [], ls, b, r, h => by
    rw [readS] at h
    by_cases h1 : b = []
    · rw [if_pos h1] at h
      split at h
      · cases h
      · injection h with h; subst h; omega
    · rw [if_neg h1] at h; injection h with h; subst h; rw [enc_app]; simp
  | n + 1, c :: t, ls, b, r, h => by
    rw [readS] at h
    simp only [List.length_cons]
    split at h
    · have := read_len n t _ _ r h; rw [enc_app] at this; simp at this; omega
    · split at h
      · cases hx : esc t with
        | none => rw [hx] at h; cases h
        | some p =>
          obtain ⟨x, m⟩ := p
          rw [hx] at h; simp only at h
          have := read_len n _ _ _ r h; rw [List.length_drop, List.length_append] at this; simp at this
          have := esc_len hx; omega
      · split at h
        · have := read_len n t _ _ r h; rw [List.length_append] at this; simp at this; omega
        · cases h
theorem parse_ref (t : T) (k : Nat) (ht : t.length ≤ 10000) (hk : t.length + 100 ≤ k) : name_Parse.f k (mk t) = some (mk (parseS t).1, (parseS t).2) := by
  unfold name_Parse.f parseS
  rw [mk_list]
  by_cases h1 : t = [46]
  · rw [if_pos h1, if_pos h1]; rfl
  · rw [if_neg h1, if_neg h1, read_ref t k ht (by omega)]
    simp only [Option.bind_some]
    cases hr : readS (t.length + 1) t [] [] with
    | none => simp only; rw [if_neg (by simp)]; rfl
    | some ls =>
      simp only
      have hlen := read_len _ _ _ _ _ hr
      have hle := labels_le ls
      simp only [enc, List.flatMap_nil, List.nil_append, List.length_cons, List.length_nil] at hlen
      have hlen' : (enc ls).length ≤ t.length + 2 := by unfold enc; omega
      clear hlen
      rw [if_pos (by trivial), contains_ref ls k (by omega) (by omega)]
      simp only [Option.bind_some]
      by_cases h2 : [] ∈ ls
      · rw [if_pos (by simpa using h2), if_pos h2]; rfl
      · rw [if_neg (by simpa using h2), if_neg h2, join_ref ls k (by omega) (by omega) (by omega)]; rfl
theorem labels_ref (t : T) (k : Nat) (hk : 1000 ≤ k) : name_Labels.f k (mk t) = some ((spl t).1.map mk) := by
  unfold name_Labels.f; rw [split_ref t k hk]; rfl
theorem pr_eq : prB = pr := rfl
theorem printBytes_mk (ls : List T) : printBytes (ls.map mk) = prS ls := by
  unfold printBytes prS
  rw [List.flatMap_map]; rfl
theorem sum_mk (ls : List T) : ((ls.map mk).map (fun x => x.size + 1)).sum + 1 = (enc ls).length := by
  induction ls with
  | nil => rfl
  | cons x ls ih => rw [List.map_cons, List.map_cons, List.sum_cons, enc_len_cons, mk_size]; omega
theorem print_ref (t : T) (k : Nat) (hk : 1000 ≤ k) : name_Print.f k (mk t) = some (mk (printS t).1, (printS t).2) := by
  unfold name_Print.f printS
  rw [split_ref t k hk]
  simp only [Option.bind_some]
  cases h : nm t with
  | none => rw [spl_none h]; simp only; rw [if_neg (by simp)]; rfl
  | some ls =>
    have hl := (nm_some h).1.2
    have hs := sum_mk ls
    rw [spl_some h]; simp only
    rw [if_pos (by trivial), List.length_map, printBytes_mk]
    by_cases h0 : ls.length = 0
    · rw [if_pos h0, if_pos h0]; rfl
    · rw [if_neg h0, if_neg h0, if_pos (by omega)]; rfl
theorem prS_len (ls : List T) : (prS ls).length ≤ 4 * (enc ls).length := by
  induction ls with
  | nil => simp [prS]
  | cons x ls ih =>
    have : (prL x).length ≤ 4 * x.length + 1 := by
      have h := prT_len x; unfold prT at h; rw [pr_eq] at h; unfold prL; rw [List.length_append]; show _ + 1 ≤ _; omega
    unfold prS at *
    rw [List.flatMap_cons, List.length_append, enc_len_cons]; omega
theorem printS_len (t : T) : (printS t).1.length ≤ 1100 := by
  unfold printS
  cases h : nm t with
  | none => show 0 ≤ 1100; omega
  | some ls =>
    have hl := (nm_some h).1.2
    have := prS_len ls
    show (if ls.length = 0 then [46] else prS ls).length ≤ 1100
    split
    · show 1 ≤ 1100; omega
    · omega
theorem printS_ok (t : T) : (printS t).2 = 0 ↔ (nm t).isSome = true := by
  unfold printS
  cases h : nm t with
  | none => simp
  | some ls => simp
theorem first_true : rhzlaw2_first.f 300 = some true := by decide +kernel
theorem first_ref (k : Nat) (hk : 300 ≤ k) : rhzlaw2_first.f k = some true := by
  obtain ⟨d, rfl⟩ := Nat.le.dest hk
  induction d with
  | zero => exact first_true
  | succ d ih => exact rhzlaw2_first.mono (300 + d) _ (ih (by omega))
end Go.Proofs.Ytoocmjdnboldhaa.Nl
