/- What the printed functions split, Lower, joined and May of the package name come to, in the words of lists of labels. -/
import Derived.Test.YtoocmjdnboldhaaNlA
import Derived.Test.YtoocmjdnboldhaaPNameCasex
namespace Go.Proofs.Ytoocmjdnboldhaa.Nl
open Go.RowKit Go.Proofs.Ytoocmjdnboldhaa.PNameCase Go.Proofs.YtoocmjdnboldhaaW.PrintWords Go.Proofs.YtoocmjdnboldhaaW.PrintLast Go.Proofs.YtoocmjdnboldhaaW.PrintMore
set_option linter.unusedVariables false
set_option linter.unusedSimpArgs false
def mk (t : T) : ByteArray := ⟨t.toArray⟩
theorem mk_data (a : ByteArray) : mk a.data.toList = a := rfl
theorem mk_eq (a : ByteArray) : ∃ t, a = mk t := ⟨a.data.toList, rfl⟩
theorem mk_size (t : T) : (mk t).size = t.length := by unfold mk; exact List.size_toArray
theorem mk_list (t : T) : (mk t).toList = t := by rw [ByteArray.toList_eq]; rfl
theorem mk_inj {a b : T} : mk a = mk b ↔ a = b := ⟨fun h => by rw [← mk_list a, h, mk_list], fun h => h ▸ rfl⟩
theorem mk_extract (t : T) (a b : Nat) : (mk t).extract a b = mk ((t.take b).drop a) := by
  apply ByteArray.ext
  simp [mk, List.extract_eq_drop_take', List.take_drop]
  by_cases h : a ≤ b
  · rw [show a + (b - a) = b from by omega]
  · rw [List.drop_eq_nil_of_le (by rw [List.length_take]; omega), List.drop_eq_nil_of_le (by rw [List.length_take]; omega)]
theorem wrap_small {n : Int} (h : 0 ≤ n) (h' : n ≤ 1000000000) : wrap64 n = n := by unfold wrap64; omega
theorem wrap_sub {a b : Nat} (h : b ≤ a) (h' : a ≤ 1000000) : wrap64 ((a : Int) - (b : Int)) = ((a - b : Nat) : Int) := by rw [wrap_small (by omega) (by omega)]; omega
theorem wrap_add {a b : Nat} (h' : a ≤ 1000000) (h2 : b ≤ 1000000) : wrap64 ((a : Int) + (b : Int)) = ((a + b : Nat) : Int) := by rw [wrap_small (by omega) (by omega)]; omega
theorem wrap_succ {a : Nat} (h' : a ≤ 1000000) : wrap64 ((a : Int) + 1) = ((a + 1 : Nat) : Int) := by rw [wrap_small (by omega) (by omega)]; omega
theorem mn_len (x y : List T) : mn ((x.map mk).length : Int) ((y.map mk).length : Int) = (min x.length y.length : Nat) := by unfold mn; rw [List.length_map, List.length_map]; split <;> omega
theorem mk_bt (t : T) (i : Nat) (h : i < t.length) : bt (mk t) (i : Int) = (t[i].toNat : Int) := by
  unfold bt
  have h' : (i : Int).toNat < (mk t).size := by rw [mk_size]; simpa using h
  rw [dif_pos h']; rfl
theorem low_eq : lowB = low := rfl
theorem lower_ref (t : T) (h : t.length ≤ 1000000) : name_Lower.f (mk t) = some (mk (lowT t)) := by
  unfold name_Lower.f; rw [mk_size, if_pos (by omega)]; rfl
theorem joined_ref (ls : List T) (h : (enc ls).length ≤ 1000000) : name_joined.f (ls.map mk) = some (mk (enc ls)) := by
  have e : joinB (ls.map mk) = enc ls := by
    unfold joinB joinPre enc
    congr 1
    induction ls with
    | nil => rfl
    | cons x ls ih => rw [List.map_cons, List.flatMap_cons, List.flatMap_cons, ih (by rw [enc_len_cons] at h; omega), mk_size]; rfl
  unfold name_joined.f; rw [e, if_pos (by omega)]; rfl
theorem split_l0 : ∀ (n : Nat) (t : T) (acc : List T) (k : Nat), t.length < n → n ≤ 1000 → 2 * n < k → acc.length + t.length ≤ 1000 →
    name_split.l0 k (mk t) (acc.map mk) = some ((splitS n t acc).1.map mk, (splitS n t acc).2)
  | 0, t, acc, k, h, _, _, _ => by omega
  | n + 1, [], acc, k, h, _, hk, _ => by
    obtain ⟨k, rfl⟩ : ∃ m, k = m + 1 := ⟨k - 1, by omega⟩
    rw [name_split.l0, mk_list, if_pos rfl]; rfl
  | n + 1, c :: t, acc, k, h, hn, hk, ha => by
    obtain ⟨k, rfl⟩ : ∃ m, k = m + 2 := ⟨k - 2, by omega⟩
    simp only [List.length_cons] at h ha
    have hb : bt (mk (c :: t)) 0 = (c.toNat : Int) := mk_bt (c :: t) 0 (by simp)
    have hc := c.toNat_lt
    have w : wrap64 (c.toNat : Int) = (c.toNat : Int) := by unfold wrap64; omega
    have w2 : wrap64 (1 + (c.toNat : Int)) = ((1 + c.toNat : Nat) : Int) := by unfold wrap64; omega
    have hs : ((mk (c :: t)).size : Int) = (t.length : Int) + 1 := by rw [mk_size]; simp
    rw [name_split.l0, mk_list, if_neg (by simp), if_pos (by omega), hb, w, splitS]
    by_cases h0 : c.toNat = 0
    · rw [if_pos (by omega), if_pos h0]
      have : c = 0 := by rw [← UInt8.toNat_inj]; simpa using h0
      subst this
      have : ((0 :: t : T) == [0]) = (t == []) := by cases t <;> rfl
      rw [this]
    rw [if_neg (by omega), if_neg h0]
    by_cases h1 : c.toNat > 63 ∨ c.toNat ≥ t.length + 1
    · rw [if_pos h1]
      by_cases h2 : (c.toNat : Int) > 63
      · rw [if_pos h2, name_split.j1, if_pos rfl]; rfl
      · rw [if_neg h2, hs, decide_eq_true (by omega), name_split.j1, if_pos rfl]; rfl
    · rw [if_neg h1, if_neg (by omega), hs, decide_eq_false (by omega), name_split.j1, if_neg (by simp), w2, if_pos (by omega), hs, if_pos (by omega)]
      have e1 : (mk (c :: t)).extract 1 ((1 + c.toNat : Nat) : Int).toNat = mk (t.take c.toNat) := by
        rw [mk_extract, Int.toNat_natCast, Nat.add_comm 1, List.take_succ_cons]; rfl
      have e2 : (mk (c :: t)).extract ((1 + c.toNat : Nat) : Int).toNat (mk (c :: t)).size = mk (t.drop c.toNat) := by
        rw [mk_extract, mk_size, Int.toNat_natCast, List.take_length, Nat.add_comm 1]; rfl
      rw [e1, lower_ref _ (by rw [List.length_take]; omega)]
      simp only [Option.bind_some, mk_list]
      by_cases h3 : lowT (t.take c.toNat) = t.take c.toNat
      · rw [if_pos h3, if_pos h3, if_pos (by rw [List.length_map]; omega), if_pos (by omega), e2]
        have := split_l0 n (t.drop c.toNat) (acc ++ [t.take c.toNat]) k (by rw [List.length_drop]; omega) (by omega) (by omega) (by rw [List.length_append, List.length_drop]; simp; omega)
        rw [List.map_append] at this
        exact this
      · rw [if_neg h3, if_neg h3]; rfl
/-- Labels of a text, and is it a name: as the program tells it. -/
def spl (t : T) : List T × Bool := if t.length ≤ 255 then splitS 256 t [] else ([], false)
theorem spl_nm (t : T) : nm t = if (spl t).2 then some (spl t).1 else none := by
  unfold nm spl
  by_cases h : t.length ≤ 255
  · rw [if_pos h, if_pos h]
  · rw [if_neg h, if_neg h]; rfl
theorem split_ref (t : T) (k : Nat) (hk : 1000 ≤ k) : name_split.f k (mk t) = some ((spl t).1.map mk, (spl t).2) := by
  unfold name_split.f spl
  by_cases h : t.length ≤ 255
  · rw [mk_size, if_neg (by omega), if_pos h]
    exact split_l0 256 t [] k (by omega) (by omega) (by omega) (by simp; omega)
  · rw [mk_size, if_pos (by omega), if_neg h]; rfl
theorem spl_some {t : T} {ls : List T} (h : nm t = some ls) : spl t = (ls, true) := by
  rw [spl_nm] at h
  by_cases h2 : (spl t).2 = true
  · rw [if_pos h2] at h; injection h with h; rw [← h, ← h2]
  · rw [if_neg h2] at h; cases h
theorem spl_none {t : T} (h : nm t = none) : (spl t).2 = false := by
  rw [spl_nm] at h
  by_cases h2 : (spl t).2 = true
  · rw [if_pos h2] at h; cases h
  · simpa using h2
theorem may_ref (t : T) (k : Nat) (hk : 1000 ≤ k) : name_May.f k (mk t) = some (nm t).isSome := by
  unfold name_May.f; rw [split_ref t k hk]; simp only [Option.bind_some]
  cases h : nm t with
  | none => rw [spl_none h]; rfl
  | some ls => rw [spl_some h]; rfl
theorem rdOf_map (l : List T) (i : Nat) (h : i < l.length) : rdOf ByteArray.empty (l.map mk) (i : Int) = mk l[i] := by
  unfold rdOf; simp [h]
theorem Nm_count {ls : List T} (h : Nm ls) : ls.length ≤ 254 := by have := labels_le ls; have := h.2; omega
end Go.Proofs.Ytoocmjdnboldhaa.Nl
