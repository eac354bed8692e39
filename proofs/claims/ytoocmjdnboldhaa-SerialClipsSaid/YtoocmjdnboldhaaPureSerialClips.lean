/- The pure statement of SerialClips: what is clipped lies between its bounds, clipped again it is the same, and two halves of the circle added are the beginning; no conditions. -/
import Derived.Test.YtoocmjdnboldhaaPSerialClipsx1
namespace Go.Proofs.Ytoocmjdnboldhaa.Pure
open Go.RowKit Go.Proofs.Ytoocmjdnboldhaa.PSerialClips Go.Proofs.YtoocmjdnboldhaaW.PrintWords Go.Proofs.YtoocmjdnboldhaaW.PrintLast Go.Proofs.YtoocmjdnboldhaaW.PrintMore
set_option linter.unusedVariables false
set_option linter.unusedSimpArgs false

theorem may_eq (a : Int) : serial_may.f a = some (decide (0 ≤ a ∧ a < 4294967296)) := by
  by_cases h : 0 ≤ a <;> simp [serial_may.f, h]
def newB (a b : Int) : Bool := decide (0 ≤ a ∧ a < 4294967296 ∧ 0 ≤ b ∧ b < 4294967296 ∧ 1 ≤ (a - b) % 4294967296 ∧ (a - b) % 4294967296 < 2147483648)
theorem mod_eq (a b : Int) (ha : 0 ≤ a ∧ a < 4294967296) (hb : 0 ≤ b ∧ b < 4294967296) : Int.tmod (wrap64 ((wrap64 (a - b)) + 4294967296)) 4294967296 = (a - b) % 4294967296 := by
  have h1 : wrap64 (a - b) = a - b := by unfold wrap64; omega
  have h2 : wrap64 (a - b + 4294967296) = a - b + 4294967296 := by unfold wrap64; omega
  rw [h1, h2, Int.tmod_eq_emod_of_nonneg (by omega)]; omega
theorem newer_eq (a b : Int) : serial_Newer.f a b = some (newB a b) := by
  unfold serial_Newer.f newB
  rw [may_eq a]; simp only [Option.bind_some]
  by_cases ha : 0 ≤ a ∧ a < 4294967296
  · rw [if_pos (decide_eq_true ha), may_eq b]; simp only [Option.bind_some]
    by_cases hb : 0 ≤ b ∧ b < 4294967296
    · rw [if_pos (decide_eq_true hb), mod_eq a b ha hb]
      by_cases h : (a - b) % 4294967296 ≥ 1
      · rw [if_pos h]; congr 1; rw [decide_eq_decide]; omega
      · rw [if_neg h]; congr 1; symm; rw [decide_eq_false_iff_not]; omega
    · rw [if_neg (by simpa using hb)]; congr 1; symm; rw [decide_eq_false_iff_not]; omega
  · rw [if_neg (by simpa using ha)]; congr 1; symm; rw [decide_eq_false_iff_not]; omega
theorem newB_true {a b : Int} : newB a b = true ↔ (0 ≤ a ∧ a < 4294967296 ∧ 0 ≤ b ∧ b < 4294967296 ∧ 1 ≤ (a - b) % 4294967296 ∧ (a - b) % 4294967296 < 2147483648) := by unfold newB; rw [decide_eq_true_iff]
theorem newB_false {a b : Int} : newB a b = false ↔ ¬ (0 ≤ a ∧ a < 4294967296 ∧ 0 ≤ b ∧ b < 4294967296 ∧ 1 ≤ (a - b) % 4294967296 ∧ (a - b) % 4294967296 < 2147483648) := by unfold newB; rw [decide_eq_false_iff_not]
theorem first_eq : rhzlaw12_first.f = some true := by
  unfold rhzlaw12_first.f
  rw [newer_eq, newer_eq, newB_true.2 (by omega), newB_false.2 (by omega)]; rfl
theorem add_ok (a n : Int) (ha : 0 ≤ a ∧ a < 4294967296) (hn : 0 ≤ n ∧ n < 2147483648) : serial_Add.f a n = some ((a + n) % 4294967296, 0) := by
  have w : wrap64 (a + n) = a + n := by unfold wrap64; omega
  unfold serial_Add.f
  rw [may_eq, decide_eq_true ha]; simp only [Option.bind_some, if_true]
  rw [if_neg (by omega), if_neg (by omega), w, Int.tmod_eq_emod_of_nonneg (by omega)]
theorem add_bad (a n : Int) (h : ¬ (0 ≤ a ∧ a < 4294967296 ∧ 0 ≤ n ∧ n < 2147483648)) : serial_Add.f a n = some (0, 1) := by
  unfold serial_Add.f
  rw [may_eq]; simp only [Option.bind_some]
  by_cases ha : 0 ≤ a ∧ a < 4294967296
  · rw [decide_eq_true ha, if_pos rfl]
    by_cases h1 : n < 0
    · rw [if_pos h1]
    · rw [if_neg h1, if_pos (by omega)]
  · rw [decide_eq_false ha, if_neg (by simp)]
theorem clip_eq (a b c : Int) : serial_Clip.f a b c = some (mn (mx a b) c) := rfl
theorem j1_true (k : Nat) (a : Int) : rhzlaw12_SerialClips.j1 (k + 1) a true = some true := by
  rw [rhzlaw12_SerialClips.j1, if_pos rfl, first_eq]; rfl
theorem j1_false (k : Nat) (a : Int) (ha : 0 ≤ a ∧ a < 4294967296) : rhzlaw12_SerialClips.j1 (k + 1) a false = some true := by
  rw [rhzlaw12_SerialClips.j1, if_neg (by simp), add_ok a 2147483647 ha (by omega)]; simp only [Option.bind_some]
  rw [add_ok _ 2147483647 (by omega) (by omega)]; simp only [Option.bind_some]
  rw [add_ok _ 2 (by omega) (by omega)]; simp only [Option.bind_some]
  rw [first_eq]; simp only [Option.bind_some, if_true]
  rw [if_pos (by omega), newer_eq, newB_true.2 (by omega)]; simp only [Option.bind_some, if_true]
  rw [newer_eq, newB_true.2 (by omega)]; simp only [Option.bind_some, if_true]
  rw [newer_eq, newB_false.2 (by omega)]; simp only [Option.bind_some]
  rw [if_neg (by omega), newer_eq, newB_true.2 (by omega)]; rfl
theorem j0_eq (k : Nat) (a : Int) : rhzlaw12_SerialClips.j0 (k + 2) a false = some true := by
  rw [rhzlaw12_SerialClips.j0, if_neg (by simp)]
  by_cases h : a < 0
  · rw [if_pos h]; exact j1_true _ _
  rw [if_neg h]
  by_cases h2 : a ≥ 4294967296
  · rw [decide_eq_true h2]; exact j1_true _ _
  · rw [decide_eq_false h2]; exact j1_false _ _ (by omega)
theorem SerialClips : rhzlaw12_SerialClips.Pure := by
  intro a b c d _ _ _ _
  refine ⟨2, ?_⟩
  unfold rhzlaw12_SerialClips.f
  rw [first_eq]; simp only [Option.bind_some, if_true, clip_eq]
  by_cases h : b ≤ c
  · have e1 : b ≤ mn (mx a b) c := by unfold mn mx; split <;> split <;> omega
    have e2 : mn (mx a b) c ≤ c := by unfold mn mx; split <;> split <;> omega
    have e3 : mn (mx (mn (mx a b) c) b) c = mn (mx a b) c := by unfold mn mx; (repeat' split) <;> omega
    rw [if_pos h, if_neg (by omega), if_neg (by omega), e3, if_pos rfl]
    by_cases g : a ≥ b
    · rw [if_pos g]
      by_cases g2 : a ≤ c
      · have e4 : mn (mx a b) c = a := by unfold mn mx; split <;> split <;> omega
        rw [if_pos g2, if_pos e4]; exact j0_eq _ _
      · rw [if_neg g2]; exact j0_eq _ _
    · rw [if_neg g]; exact j0_eq _ _
  · rw [if_neg h, decide_eq_false h]
    split <;> exact j0_eq _ _

end Go.Proofs.Ytoocmjdnboldhaa.Pure
