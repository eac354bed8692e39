/- The pure statement of SerialFresh: what is fresh is so till its life is over, not longer, and not ahead of its beginning; no conditions. -/
import Derived.Test.YtoocmjdnboldhaaPSerialFreshx1
namespace Go.Proofs.Ytoocmjdnboldhaa.Pure
open Go.RowKit Go.Proofs.Ytoocmjdnboldhaa.PSerialFresh Go.Proofs.YtoocmjdnboldhaaW.PrintWords Go.Proofs.YtoocmjdnboldhaaW.PrintLast Go.Proofs.YtoocmjdnboldhaaW.PrintMore
set_option linter.unusedVariables false
set_option linter.unusedSimpArgs false

theorem may_eq (a : Int) : serial_may.f a = some (decide (0 ≤ a ∧ a < 4294967296)) := by
  by_cases h : 0 ≤ a <;> simp [serial_may.f, h]
def newB (a b : Int) : Bool := decide (0 ≤ a ∧ a < 4294967296 ∧ 0 ≤ b ∧ b < 4294967296 ∧ 1 ≤ (a - b) % 4294967296 ∧ (a - b) % 4294967296 < 2147483648)
theorem mod_eq (a b : Int) (ha : 0 ≤ a ∧ a < 4294967296) (hb : 0 ≤ b ∧ b < 4294967296) : Int.tmod (wrap64 ((wrap64 (a - b)) + 4294967296)) 4294967296 = (a - b) % 4294967296 := by
  have h1 : wrap64 (a - b) = a - b := by unfold wrap64; omega
  have h2 : wrap64 (a - b + 4294967296) = a - b + 4294967296 := by unfold wrap64; omega
  rw [h1, h2, Int.tmod_eq_emod_of_nonneg (by omega)]; omega
theorem newer_eq (a b : Int) : serial_Newer.f a b = some (newB a b) := by
  unfold serial_Newer.f newB
  rw [may_eq a]; simp only [Option.bind_some]
  by_cases ha : 0 ≤ a ∧ a < 4294967296
  · rw [if_pos (decide_eq_true ha), may_eq b]; simp only [Option.bind_some]
    by_cases hb : 0 ≤ b ∧ b < 4294967296
    · rw [if_pos (decide_eq_true hb), mod_eq a b ha hb]
      by_cases h : (a - b) % 4294967296 ≥ 1
      · rw [if_pos h]; congr 1; rw [decide_eq_decide]; omega
      · rw [if_neg h]; congr 1; symm; rw [decide_eq_false_iff_not]; omega
    · rw [if_neg (by simpa using hb)]; congr 1; symm; rw [decide_eq_false_iff_not]; omega
  · rw [if_neg (by simpa using ha)]; congr 1; symm; rw [decide_eq_false_iff_not]; omega
theorem newB_true {a b : Int} : newB a b = true ↔ (0 ≤ a ∧ a < 4294967296 ∧ 0 ≤ b ∧ b < 4294967296 ∧ 1 ≤ (a - b) % 4294967296 ∧ (a - b) % 4294967296 < 2147483648) := by unfold newB; rw [decide_eq_true_iff]
theorem newB_false {a b : Int} : newB a b = false ↔ ¬ (0 ≤ a ∧ a < 4294967296 ∧ 0 ≤ b ∧ b < 4294967296 ∧ 1 ≤ (a - b) % 4294967296 ∧ (a - b) % 4294967296 < 2147483648) := by unfold newB; rw [decide_eq_false_iff_not]
theorem first_eq : rhzlaw12_first.f = some true := by
  unfold rhzlaw12_first.f
  rw [newer_eq, newer_eq, newB_true.2 (by omega), newB_false.2 (by omega)]; rfl
theorem time_eq (a : Int) : serial_time.f a = some (decide (0 ≤ a ∧ a ≤ 1099511627776)) := by
  by_cases h : 0 ≤ a <;> simp [serial_time.f, h]
theorem fresh_eq (a b c : Int) : serial_Fresh.f a b c = some (decide (0 ≤ a ∧ a ≤ 1099511627776 ∧ 0 ≤ b ∧ b ≤ 1099511627776 ∧ 0 ≤ c ∧ c ≤ 1099511627776 ∧ b ≤ a ∧ a - b < c)) := by
  unfold serial_Fresh.f
  rw [time_eq a]; simp only [Option.bind_some]
  by_cases h1 : 0 ≤ a ∧ a ≤ 1099511627776
  · rw [if_pos (decide_eq_true h1), time_eq b]; simp only [Option.bind_some]
    by_cases h2 : 0 ≤ b ∧ b ≤ 1099511627776
    · rw [if_pos (decide_eq_true h2), time_eq c]; simp only [Option.bind_some]
      by_cases h3 : 0 ≤ c ∧ c ≤ 1099511627776
      · rw [if_pos (decide_eq_true h3)]
        have h4 : wrap64 (a - b) = a - b := by unfold wrap64; omega
        rw [h4]
        by_cases h5 : b ≤ a
        · rw [if_pos h5]; congr 1; rw [decide_eq_decide]; omega
        · rw [if_neg h5]; congr 1; symm; rw [decide_eq_false_iff_not]; omega
      · rw [if_neg (by simpa using h3)]; congr 1; symm; rw [decide_eq_false_iff_not]; omega
    · rw [if_neg (by simpa using h2)]; congr 1; symm; rw [decide_eq_false_iff_not]; omega
  · rw [if_neg (by simpa using h1)]; congr 1; symm; rw [decide_eq_false_iff_not]; omega
theorem j0_true (k : Nat) (a b c : Int) : rhzlaw12_SerialFresh.j0 (k + 1) a b c true = some true := by
  rw [rhzlaw12_SerialFresh.j0, if_pos rfl, first_eq]; rfl
theorem j0_false (k : Nat) (a b c : Int) (ha : 0 ≤ a ∧ a ≤ 549755813888) (hb : 0 ≤ b ∧ b ≤ 274877906944) (hc : 0 ≤ c ∧ c ≤ 274877906944) : rhzlaw12_SerialFresh.j0 (k + 1) a b c false = some true := by
  rw [rhzlaw12_SerialFresh.j0]
  have w1 : wrap64 (a + c) = a + c := by unfold wrap64; omega
  have w2 : wrap64 (a - 1) = a - 1 := by unfold wrap64; omega
  rw [if_neg (by simp), first_eq, w1, w2, fresh_eq (a + c) a b, fresh_eq (a - 1) a b]
  simp only [Option.bind_some, if_true, serial_Clip.f]
  have e : ((decide (0 ≤ a + c ∧ a + c ≤ 1099511627776 ∧ 0 ≤ a ∧ a ≤ 1099511627776 ∧ 0 ≤ b ∧ b ≤ 1099511627776 ∧ a ≤ a + c ∧ a + c - a < b)) == decide (c < b)) = true := by
    rw [beq_iff_eq, decide_eq_decide]; omega
  have m : mn (mx c 0) b ≤ b := by unfold mn mx; split <;> split <;> omega
  have n : ¬ (decide (0 ≤ a - 1 ∧ a - 1 ≤ 1099511627776 ∧ 0 ≤ a ∧ a ≤ 1099511627776 ∧ 0 ≤ b ∧ b ≤ 1099511627776 ∧ a ≤ a - 1 ∧ a - 1 - a < b) = true) := by
    rw [decide_eq_true_iff]; omega
  rw [if_pos e]
  by_cases h : a = 0
  · rw [if_pos h]; rw [decide_eq_true m]
  · rw [if_neg h, if_neg n, decide_eq_true m]
theorem SerialFresh : rhzlaw12_SerialFresh.Pure := by
  intro a b c _ _ _
  refine ⟨1, ?_⟩
  unfold rhzlaw12_SerialFresh.f
  rw [first_eq]; simp only [Option.bind_some, if_true]
  by_cases h1 : a < 0
  · rw [if_pos h1]; exact j0_true _ _ _ _
  rw [if_neg h1]
  by_cases h2 : a > 549755813888
  · rw [if_pos h2]; exact j0_true _ _ _ _
  rw [if_neg h2]
  by_cases h3 : b < 0
  · rw [if_pos h3]; exact j0_true _ _ _ _
  rw [if_neg h3]
  by_cases h4 : b > 274877906944
  · rw [if_pos h4]; exact j0_true _ _ _ _
  rw [if_neg h4]
  by_cases h5 : c < 0
  · rw [if_pos h5]; exact j0_true _ _ _ _
  rw [if_neg h5]
  by_cases h6 : c > 274877906944
  · rw [decide_eq_true h6]; exact j0_true _ _ _ _
  · rw [decide_eq_false h6]; exact j0_false _ _ _ _ (by omega) (by omega) (by omega)

end Go.Proofs.Ytoocmjdnboldhaa.Pure
