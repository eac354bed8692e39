/- What the printed function name.Compare comes to, in the words of lists of labels. -/
import Derived.Test.YtoocmjdnboldhaaNmBNameOrders
namespace Go.Proofs.Ytoocmjdnboldhaa.Nl
open Go.RowKit Go.Proofs.Ytoocmjdnboldhaa.PNameOrders Go.Proofs.YtoocmjdnboldhaaW.PrintWords Go.Proofs.YtoocmjdnboldhaaW.PrintLast Go.Proofs.YtoocmjdnboldhaaW.PrintMore
set_option linter.unusedVariables false
set_option linter.unusedSimpArgs false
/-! ### Compare -/
theorem less_eq (x y : T) : (Op.bytesLess x y = true) = (x < y) := by rw [bytesLess_eq]; simp
theorem cmpS_ref (x y : T) : cmp_Compare_string.f (mk x) (mk y) = some (cmpT x y) := by
  unfold cmp_Compare_string.f cmpT
  rw [mk_list, mk_list]
  congr 1
  simp only [less_eq]
  by_cases h : x < y
  · rw [if_pos h, if_pos h]
  · rw [if_neg h, if_neg h]
    by_cases h2 : x = y
    · subst h2; rw [if_pos rfl, if_neg h]
    · rw [if_neg h2]; rcases T_tri x y with h3 | h3 | h3
      · exact absurd h3 h
      · exact absurd h3 h2
      · rw [if_pos h3]
theorem cmpI_ref (a b : Int) : cmp_Compare_int.f a b = some (if a < b then -1 else if b < a then 1 else 0) := by
  unfold cmp_Compare_int.f cmp_isNaN_int.f; simp
  by_cases h : a < b
  · rw [if_pos h, if_pos h]
  · rw [if_neg h, if_neg h]; by_cases h2 : b < a
    · rw [if_pos h2, if_pos h2]
    · rw [if_neg h2, if_neg h2]
theorem cmp_l0 (x y : List T) (hx : x.length ≤ 300) (hy : y.length ≤ 300) (d : Nat) : ∀ (k i : Nat), min x.length y.length - i = d → i ≤ min x.length y.length → d < k →
    name_Compare.l0 k (x.map mk) (y.map mk) ((i + 1 : Nat) : Int) = some (cmpL (x.take (x.length - i)).reverse (y.take (y.length - i)).reverse) := by
  induction d with
  | zero =>
    intro k i hd hi hk
    obtain ⟨k, rfl⟩ : ∃ m, k = m + 1 := ⟨k - 1, by omega⟩
    have hm := mn_len x y
    rw [name_Compare.l0, hm, if_neg (by omega), cmpI_ref]; simp only [Option.bind_some, List.length_map]
    by_cases h : x.length < y.length
    · have e1 : x.length - i = 0 := by omega
      obtain ⟨z, zs, hz⟩ : ∃ z zs, (y.take (y.length - i)).reverse = z :: zs := by
        cases hh : (y.take (y.length - i)).reverse with
        | nil => have := congrArg List.length hh; simp at this; omega
        | cons z zs => exact ⟨z, zs, rfl⟩
      rw [if_pos (by omega), e1, hz]; rfl
    · by_cases h2 : y.length < x.length
      · have e1 : y.length - i = 0 := by omega
        obtain ⟨z, zs, hz⟩ : ∃ z zs, (x.take (x.length - i)).reverse = z :: zs := by
          cases hh : (x.take (x.length - i)).reverse with
          | nil => have := congrArg List.length hh; simp at this; omega
          | cons z zs => exact ⟨z, zs, rfl⟩
        rw [if_neg (by omega), if_pos (by omega), e1, hz]; rfl
      · have e1 : x.length - i = 0 := by omega
        have e2 : y.length - i = 0 := by omega
        rw [if_neg (by omega), if_neg (by omega), e1, e2]; rfl
  | succ d ih =>
    intro k i hd hi hk
    obtain ⟨k, rfl⟩ : ∃ m, k = m + 1 := ⟨k - 1, by omega⟩
    have hx1 : x.length - (i + 1) < x.length := by omega
    have hy1 : y.length - (i + 1) < y.length := by omega
    have e1 : (x.take (x.length - i)).reverse = x[x.length - (i + 1)] :: (x.take (x.length - (i + 1))).reverse := by
      rw [show x.length - i = x.length - (i + 1) + 1 from by omega, List.take_succ_eq_append_getElem hx1, List.reverse_append, List.reverse_singleton, List.singleton_append]
    have e2 : (y.take (y.length - i)).reverse = y[y.length - (i + 1)] :: (y.take (y.length - (i + 1))).reverse := by
      rw [show y.length - i = y.length - (i + 1) + 1 from by omega, List.take_succ_eq_append_getElem hy1, List.reverse_append, List.reverse_singleton, List.singleton_append]
    have hix : i + 1 ≤ x.length := by omega
    have hiy : i + 1 ≤ y.length := by omega
    have him : i + 1 ≤ min x.length y.length := by omega
    have hih := ih k (i + 1) (by omega) (by omega) (by omega)
    have hm := mn_len x y
    have w1 : wrap64 (((x.map mk).length : Int) - ((i + 1 : Nat) : Int)) = ((x.length - (i + 1) : Nat) : Int) := by rw [List.length_map]; exact wrap_sub hix (by omega)
    have w2 : wrap64 (((y.map mk).length : Int) - ((i + 1 : Nat) : Int)) = ((y.length - (i + 1) : Nat) : Int) := by rw [List.length_map]; exact wrap_sub hiy (by omega)
    have w3 : wrap64 (((i + 1 : Nat) : Int) + 1) = ((i + 1 + 1 : Nat) : Int) := wrap_succ (by omega)
    rw [name_Compare.l0, hm, if_pos (Int.ofNat_le.2 him), w1, w2, if_pos (Int.natCast_nonneg _), if_pos (by rw [List.length_map]; exact Int.ofNat_lt.2 hx1), if_pos (Int.natCast_nonneg _), if_pos (by rw [List.length_map]; exact Int.ofNat_lt.2 hy1), rdOf_map x _ hx1, rdOf_map y _ hy1, cmpS_ref]
    simp only [Option.bind_some]
    rw [e1, e2, cmpL]
    by_cases h : cmpT x[x.length - (i + 1)] y[y.length - (i + 1)] = 0
    · rw [if_pos h, if_pos h, w3]; exact hih
    · rw [if_neg h, if_neg h]
theorem compare_ref (a b : T) (k : Nat) (hk : 1001 ≤ k) : name_Compare.f k (mk a) (mk b) = some (cmpN a b) := by
  unfold name_Compare.f cmpN
  rw [split_ref a k (by omega), split_ref b k (by omega)]; simp only [Option.bind_some]
  obtain ⟨k, rfl⟩ : ∃ m, k = m + 1 := ⟨k - 1, by omega⟩
  cases ha : nm a with
  | none =>
    rw [spl_none ha, if_neg (by simp)]
    cases hb : nm b with
    | none => rw [spl_none hb, name_Compare.j0]; simp [cmpS_ref]
    | some y => rw [spl_some hb, name_Compare.j0]; simp
  | some x =>
    rw [spl_some ha, if_pos rfl, name_Compare.j0, if_neg (by simp), if_pos rfl]
    cases hb : nm b with
    | none => rw [spl_none hb]; simp
    | some y =>
      rw [spl_some hb, if_pos rfl]
      have hx := Nm_count (nm_some ha).1
      have hy := Nm_count (nm_some hb).1
      have := cmp_l0 x y (by omega) (by omega) (min x.length y.length) k 0 (by omega) (by omega) (by omega)
      simpa using this
end Go.Proofs.Ytoocmjdnboldhaa.Nl
