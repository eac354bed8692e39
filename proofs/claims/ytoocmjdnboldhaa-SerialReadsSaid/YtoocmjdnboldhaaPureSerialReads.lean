/- The pure statement of SerialReads: the package serial answers what the reference answers; no conditions. -/
import Derived.Test.YtoocmjdnboldhaaPSerialReadsx2
namespace Go.Proofs.Ytoocmjdnboldhaa.Pure
open Go.RowKit Go.Proofs.Ytoocmjdnboldhaa.PSerialReads Go.Proofs.YtoocmjdnboldhaaW.PrintWords Go.Proofs.YtoocmjdnboldhaaW.PrintLast Go.Proofs.YtoocmjdnboldhaaW.PrintMore
set_option linter.unusedVariables false
set_option linter.unusedSimpArgs false

theorem may_eq (a : Int) : serial_may.f a = some (decide (0 ≤ a ∧ a < 4294967296)) := by
  by_cases h : 0 ≤ a <;> simp [serial_may.f, h]
def newB (a b : Int) : Bool := decide (0 ≤ a ∧ a < 4294967296 ∧ 0 ≤ b ∧ b < 4294967296 ∧ 1 ≤ (a - b) % 4294967296 ∧ (a - b) % 4294967296 < 2147483648)
theorem mod_eq (a b : Int) (ha : 0 ≤ a ∧ a < 4294967296) (hb : 0 ≤ b ∧ b < 4294967296) : Int.tmod (wrap64 ((wrap64 (a - b)) + 4294967296)) 4294967296 = (a - b) % 4294967296 := by
  have h1 : wrap64 (a - b) = a - b := by unfold wrap64; omega
  have h2 : wrap64 (a - b + 4294967296) = a - b + 4294967296 := by unfold wrap64; omega
  rw [h1, h2, Int.tmod_eq_emod_of_nonneg (by omega)]; omega
theorem newer_eq (a b : Int) : serial_Newer.f a b = some (newB a b) := by
  unfold serial_Newer.f newB
  rw [may_eq a]; simp only [Option.bind_some]
  by_cases ha : 0 ≤ a ∧ a < 4294967296
  · rw [if_pos (decide_eq_true ha), may_eq b]; simp only [Option.bind_some]
    by_cases hb : 0 ≤ b ∧ b < 4294967296
    · rw [if_pos (decide_eq_true hb), mod_eq a b ha hb]
      by_cases h : (a - b) % 4294967296 ≥ 1
      · rw [if_pos h]; congr 1; rw [decide_eq_decide]; omega
      · rw [if_neg h]; congr 1; symm; rw [decide_eq_false_iff_not]; omega
    · rw [if_neg (by simpa using hb)]; congr 1; symm; rw [decide_eq_false_iff_not]; omega
  · rw [if_neg (by simpa using ha)]; congr 1; symm; rw [decide_eq_false_iff_not]; omega
theorem newB_true {a b : Int} : newB a b = true ↔ (0 ≤ a ∧ a < 4294967296 ∧ 0 ≤ b ∧ b < 4294967296 ∧ 1 ≤ (a - b) % 4294967296 ∧ (a - b) % 4294967296 < 2147483648) := by unfold newB; rw [decide_eq_true_iff]
theorem newB_false {a b : Int} : newB a b = false ↔ ¬ (0 ≤ a ∧ a < 4294967296 ∧ 0 ≤ b ∧ b < 4294967296 ∧ 1 ≤ (a - b) % 4294967296 ∧ (a - b) % 4294967296 < 2147483648) := by unfold newB; rw [decide_eq_false_iff_not]
theorem first_eq : rhzlaw12_first.f = some true := by
  unfold rhzlaw12_first.f
  rw [newer_eq, newer_eq, newB_true.2 (by omega), newB_false.2 (by omega)]; rfl
theorem add_ok (a n : Int) (ha : 0 ≤ a ∧ a < 4294967296) (hn : 0 ≤ n ∧ n < 2147483648) : serial_Add.f a n = some ((a + n) % 4294967296, 0) := by
  have w : wrap64 (a + n) = a + n := by unfold wrap64; omega
  unfold serial_Add.f
  rw [may_eq, decide_eq_true ha]; simp only [Option.bind_some, if_true]
  rw [if_neg (by omega), if_neg (by omega), w, Int.tmod_eq_emod_of_nonneg (by omega)]
theorem add_bad (a n : Int) (h : ¬ (0 ≤ a ∧ a < 4294967296 ∧ 0 ≤ n ∧ n < 2147483648)) : serial_Add.f a n = some (0, 1) := by
  unfold serial_Add.f
  rw [may_eq]; simp only [Option.bind_some]
  by_cases ha : 0 ≤ a ∧ a < 4294967296
  · rw [decide_eq_true ha, if_pos rfl]
    by_cases h1 : n < 0
    · rw [if_pos h1]
    · rw [if_neg h1, if_pos (by omega)]
  · rw [decide_eq_false ha, if_neg (by simp)]
def mayB (a : Int) : Bool := decide (0 ≤ a ∧ a < 4294967296)
def nwB (l : List Int) (a : Int) : Bool := l.all (fun b => a == b || newB a b)
def lastS (l : List Int) : Int × Bool := if l.all mayB then (match l.find? (nwB l) with | some a => (a, true) | none => (0, false)) else (0, false)
theorem wrap_i {i n : Nat} (h : i ≤ n) (hn : n ≤ 1000) : wrap64 ((i : Int) + 1) = ((i + 1 : Nat) : Int) := by unfold wrap64; omega
theorem rd_i (l : List Int) (i : Nat) (h : i < l.length) : rd l (i : Int) = l[i] := by
  unfold rd; simp [h]
theorem newest_l0 (a : Int) (l : List Int) (hn : l.length ≤ 1000) (d : Nat) : ∀ (k i : Nat), l.length - i = d → i ≤ l.length → d < k →
    serial_newest.l0 k a l (l.length : Int) (i : Int) = some (nwB (l.drop i) a && mayB a) := by
  induction d with
  | zero =>
    intro k i hd hi hk
    obtain ⟨k, rfl⟩ : ∃ m, k = m + 1 := ⟨k - 1, by omega⟩
    rw [serial_newest.l0, if_neg (by omega), may_eq, List.drop_eq_nil_of_le (by omega)]; rfl
  | succ d ih =>
    intro k i hd hi hk
    obtain ⟨k, rfl⟩ : ∃ m, k = m + 1 := ⟨k - 1, by omega⟩
    have hlt : i < l.length := by omega
    have e : nwB (l.drop i) a = ((a == l[i] || newB a l[i]) && nwB (l.drop (i + 1)) a) := by
      rw [List.drop_eq_getElem_cons hlt]; rfl
    rw [serial_newest.l0, if_pos (by omega), if_pos (by omega), if_pos (by omega), rd_i l i hlt, e, wrap_i hi hn]
    by_cases h : a = l[i]
    · rw [if_pos h, ih k (i + 1) (by omega) (by omega) (by omega), (beq_iff_eq.2 h : (a == l[i]) = true)]; rfl
    · rw [if_neg h, newer_eq]; simp only [Option.bind_some]
      rw [(beq_eq_false_iff_ne.2 h : (a == l[i]) = false)]
      cases hb : newB a l[i]
      · rw [if_neg (by simp)]; rfl
      · rw [if_pos rfl, ih k (i + 1) (by omega) (by omega) (by omega)]; rfl
theorem newest_eq (a : Int) (l : List Int) (hn : l.length ≤ 1000) (k : Nat) (hk : l.length < k) : serial_newest.f k a l = some (nwB l a && mayB a) :=
  newest_l0 a l hn l.length k 0 rfl (by omega) hk
theorem last_l1 (l : List Int) (hn : l.length ≤ 1000) (hm : l.all mayB = true) (d : Nat) : ∀ (k i : Nat), l.length - i = d → i ≤ l.length → d + l.length + 1 < k →
    serial_Last.l1 k l l (l.length : Int) (i : Int) = some (match (l.drop i).find? (nwB l) with | some a => (a, true) | none => (0, false)) := by
  induction d with
  | zero =>
    intro k i hd hi hk
    obtain ⟨k, rfl⟩ : ∃ m, k = m + 1 := ⟨k - 1, by omega⟩
    rw [serial_Last.l1, if_neg (by omega), List.drop_eq_nil_of_le (by omega)]; rfl
  | succ d ih =>
    intro k i hd hi hk
    obtain ⟨k, rfl⟩ : ∃ m, k = m + 1 := ⟨k - 1, by omega⟩
    have hlt : i < l.length := by omega
    have hma : mayB l[i] = true := List.all_eq_true.1 hm _ (List.getElem_mem hlt)
    rw [serial_Last.l1, if_pos (by omega), if_pos (by omega), if_pos (by omega), rd_i l i hlt, newest_eq _ l hn k (by omega), wrap_i hi hn]; simp only [Option.bind_some]
    rw [List.drop_eq_getElem_cons hlt, List.find?_cons, hma, Bool.and_true]
    cases hb : nwB l l[i]
    · rw [if_neg (by simp)]; exact ih k (i + 1) (by omega) (by omega) (by omega)
    · rw [if_pos rfl]
theorem last_l0 (l : List Int) (hn : l.length ≤ 1000) (d : Nat) : ∀ (k i : Nat), l.length - i = d → i ≤ l.length → d + 2 * l.length + 2 < k → (∀ x ∈ l.take i, mayB x = true) →
    serial_Last.l0 k l l (l.length : Int) (i : Int) = some (lastS l) := by
  induction d with
  | zero =>
    intro k i hd hi hk hm
    obtain ⟨k, rfl⟩ : ∃ m, k = m + 1 := ⟨k - 1, by omega⟩
    have ha : l.all mayB = true := by rw [List.all_eq_true]; rw [List.take_of_length_le (by omega)] at hm; exact hm
    rw [serial_Last.l0, if_neg (by omega)]
    have := last_l1 l hn ha l.length k 0 rfl (by omega) (by omega)
    rw [List.drop_zero] at this
    unfold lastS
    rw [if_pos ha]; exact this
  | succ d ih =>
    intro k i hd hi hk hm
    obtain ⟨k, rfl⟩ : ∃ m, k = m + 1 := ⟨k - 1, by omega⟩
    have hlt : i < l.length := by omega
    rw [serial_Last.l0, if_pos (by omega), if_pos (by omega), if_pos (by omega), rd_i l i hlt, may_eq, wrap_i hi hn]; simp only [Option.bind_some]
    show (if mayB l[i] = true then _ else _) = _
    cases hb : mayB l[i]
    · rw [if_neg (by simp)]; unfold lastS
      rw [if_neg]; intro h; rw [List.all_eq_true] at h; rw [h _ (List.getElem_mem hlt)] at hb; simp at hb
    · rw [if_pos rfl]; refine ih k (i + 1) (by omega) (by omega) (by omega) ?_
      intro x hx
      rw [List.take_succ_eq_append_getElem hlt, List.mem_append] at hx
      rcases hx with h | h
      · exact hm x h
      · rw [List.mem_singleton] at h; rw [h]; exact hb
theorem last_eq (l : List Int) (hn : l.length ≤ 1000) (k : Nat) (hk : 3 * l.length + 2 < k) : serial_Last.f k l = some (lastS l) :=
  last_l0 l hn l.length k 0 rfl (by omega) (by omega) (by simp)
theorem time_eq (a : Int) : serial_time.f a = some (decide (0 ≤ a ∧ a ≤ 1099511627776)) := by
  by_cases h : 0 ≤ a <;> simp [serial_time.f, h]
theorem fresh_eq (a b c : Int) : serial_Fresh.f a b c = some (decide (0 ≤ a ∧ a ≤ 1099511627776 ∧ 0 ≤ b ∧ b ≤ 1099511627776 ∧ 0 ≤ c ∧ c ≤ 1099511627776 ∧ b ≤ a ∧ a - b < c)) := by
  unfold serial_Fresh.f
  rw [time_eq a]; simp only [Option.bind_some]
  by_cases h1 : 0 ≤ a ∧ a ≤ 1099511627776
  · rw [if_pos (decide_eq_true h1), time_eq b]; simp only [Option.bind_some]
    by_cases h2 : 0 ≤ b ∧ b ≤ 1099511627776
    · rw [if_pos (decide_eq_true h2), time_eq c]; simp only [Option.bind_some]
      by_cases h3 : 0 ≤ c ∧ c ≤ 1099511627776
      · rw [if_pos (decide_eq_true h3)]
        have h4 : wrap64 (a - b) = a - b := by unfold wrap64; omega
        rw [h4]
        by_cases h5 : b ≤ a
        · rw [if_pos h5]; congr 1; rw [decide_eq_decide]; omega
        · rw [if_neg h5]; congr 1; symm; rw [decide_eq_false_iff_not]; omega
      · rw [if_neg (by simpa using h3)]; congr 1; symm; rw [decide_eq_false_iff_not]; omega
    · rw [if_neg (by simpa using h2)]; congr 1; symm; rw [decide_eq_false_iff_not]; omega
  · rw [if_neg (by simpa using h1)]; congr 1; symm; rw [decide_eq_false_iff_not]; omega
theorem rmay_eq (a : Int) : rhzref10_may.f a = some (mayB a) := by
  unfold mayB; by_cases h : 0 ≤ a <;> simp [rhzref10_may.f, h]
theorem i64_and32 (n : Int) : bits .and .i64 n 4294967295 = n % 4294967296 := by
  have h32 : (BitVec.ofInt 64 4294967295).toNat = 2 ^ 32 - 1 := by decide
  have key : (BitVec.ofInt 64 n &&& BitVec.ofInt 64 4294967295).toNat = (n % ((2 ^ 64 : Nat) : Int)).toNat % 2 ^ 32 := by
    rw [BitVec.toNat_and, BitVec.toNat_ofInt, h32, Nat.and_two_pow_sub_one_eq_mod]
  show IntKind.i64.wrap ((BitVec.ofInt 64 n &&& BitVec.ofInt 64 4294967295).toNat : Nat) = n % 4294967296
  rw [key, IntKind.wrap_i64]
  omega
theorem rnewer_eq (a b : Int) : rhzref10_Newer.f a b = some (newB a b) := by
  unfold rhzref10_Newer.f newB
  rw [rmay_eq a]; simp only [Option.bind_some]
  unfold mayB
  by_cases ha : 0 ≤ a ∧ a < 4294967296
  · rw [if_pos (decide_eq_true ha), rmay_eq b]; simp only [Option.bind_some]
    unfold mayB
    by_cases hb : 0 ≤ b ∧ b < 4294967296
    · have w : wrap64 (a - b) = a - b := by unfold wrap64; omega
      rw [if_pos (decide_eq_true hb), i64_and32, w]
      by_cases h : (a - b) % 4294967296 ≥ 1
      · rw [if_pos h]; congr 1; rw [decide_eq_decide]; omega
      · rw [if_neg h]; congr 1; symm; rw [decide_eq_false_iff_not]; omega
    · rw [if_neg (by simpa using hb)]; congr 1; symm; rw [decide_eq_false_iff_not]; omega
  · rw [if_neg (by simpa using ha)]; congr 1; symm; rw [decide_eq_false_iff_not]; omega
theorem radd_eq (a n : Int) : rhzref10_Add.f a n = serial_Add.f a n := by
  unfold rhzref10_Add.f
  rw [rmay_eq]; simp only [Option.bind_some]
  unfold mayB
  by_cases ha : 0 ≤ a ∧ a < 4294967296
  · rw [if_pos (decide_eq_true ha)]
    by_cases h1 : n < 0
    · rw [if_pos h1, add_bad a n (by omega)]
    · rw [if_neg h1]
      by_cases h2 : n ≥ 2147483648
      · rw [if_pos h2, add_bad a n (by omega)]
      · have w : wrap64 (a + n) = a + n := by unfold wrap64; omega
        rw [if_neg h2, add_ok a n ha (by omega), i64_and32, w]
  · rw [if_neg (by simpa using ha), add_bad a n (by omega)]
theorem rlast_l2 (l : List Int) (hn : l.length ≤ 1000) (j : Nat) (hj : j < l.length) (d : Nat) : ∀ (k i : Nat) (g : Bool), l.length - i = d → i ≤ l.length → d < k →
    ∃ k', k ≤ k' + d + 1 ∧ rhzref10_Last.l2 k l (j : Int) g (i : Int) = if (g && nwB (l.drop i) l[j]) = true then some (l[j], true) else rhzref10_Last.l1 k' l ((j + 1 : Nat) : Int) := by
  induction d with
  | zero =>
    intro k i g hd hi hk
    obtain ⟨k, rfl⟩ : ∃ m, k = m + 1 := ⟨k - 1, by omega⟩
    refine ⟨k, by omega, ?_⟩
    rw [rhzref10_Last.l2, if_neg (by omega), List.drop_eq_nil_of_le (by omega), if_pos (by omega : (0 : Int) ≤ (j : Int)), if_pos (by omega : (j : Int) < (l.length : Int)), rd_i l j hj, wrap_i (by omega : j ≤ l.length) hn]
    cases g <;> rfl
  | succ d ih =>
    intro k i g hd hi hk
    obtain ⟨k, rfl⟩ : ∃ m, k = m + 1 := ⟨k - 1, by omega⟩
    have hlt : i < l.length := by omega
    have e : nwB (l.drop i) l[j] = ((l[j] == l[i] || newB l[j] l[i]) && nwB (l.drop (i + 1)) l[j]) := by
      rw [List.drop_eq_getElem_cons hlt]; rfl
    rw [rhzref10_Last.l2, if_pos (by omega), wrap_i hi hn]
    cases g
    · rw [if_neg (by simp)]
      obtain ⟨k', hk', h⟩ := ih k (i + 1) false (by omega) (by omega) (by omega)
      exact ⟨k', by omega, by rw [h]; simp⟩
    · rw [if_pos rfl, if_pos (by omega), if_pos (by omega), if_pos (by omega), rd_i l i hlt, rd_i l j hj, e]
      by_cases h : l[i] = l[j]
      · rw [if_pos h]
        obtain ⟨k', hk', h'⟩ := ih k (i + 1) true (by omega) (by omega) (by omega)
        exact ⟨k', by omega, by rw [h', (beq_iff_eq.2 h.symm : (l[j] == l[i]) = true)]; rfl⟩
      · rw [if_neg h, rnewer_eq]; simp only [Option.bind_some]
        obtain ⟨k', hk', h'⟩ := ih k (i + 1) (newB l[j] l[i]) (by omega) (by omega) (by omega)
        exact ⟨k', by omega, by rw [h', (beq_eq_false_iff_ne.2 (fun z => h z.symm) : (l[j] == l[i]) = false)]; simp⟩
theorem rlast_l1 (l : List Int) (hn : l.length ≤ 1000) (d : Nat) : ∀ (k i : Nat), l.length - i = d → i ≤ l.length → d * (l.length + 3) + 1 ≤ k →
    rhzref10_Last.l1 k l (i : Int) = some (match (l.drop i).find? (nwB l) with | some a => (a, true) | none => (0, false)) := by
  induction d with
  | zero =>
    intro k i hd hi hk
    obtain ⟨k, rfl⟩ : ∃ m, k = m + 1 := ⟨k - 1, by omega⟩
    rw [rhzref10_Last.l1, if_neg (by omega), List.drop_eq_nil_of_le (by omega)]; rfl
  | succ d ih =>
    intro k i hd hi hk
    rw [Nat.succ_mul] at hk
    obtain ⟨k, rfl⟩ : ∃ m, k = m + 1 := ⟨k - 1, by omega⟩
    have hlt : i < l.length := by omega
    rw [rhzref10_Last.l1, if_pos (by omega)]
    obtain ⟨k', hk', h⟩ := rlast_l2 l hn i hlt l.length k 0 true rfl (by omega) (by omega)
    rw [Int.ofNat_zero] at h
    rw [h, List.drop_zero, Bool.true_and, List.drop_eq_getElem_cons hlt, List.find?_cons]
    cases hb : nwB l l[i]
    · rw [if_neg (by simp)]; exact ih k' (i + 1) (by omega) (by omega) (by omega)
    · rw [if_pos rfl]
theorem rlast_l0 (l : List Int) (hn : l.length ≤ 1000) (d : Nat) : ∀ (k i : Nat), l.length - i = d → i ≤ l.length → d + l.length * (l.length + 3) + 2 ≤ k → (∀ x ∈ l.take i, mayB x = true) →
    rhzref10_Last.l0 k l (i : Int) = some (lastS l) := by
  induction d with
  | zero =>
    intro k i hd hi hk hm
    obtain ⟨k, rfl⟩ : ∃ m, k = m + 1 := ⟨k - 1, by omega⟩
    have ha : l.all mayB = true := by rw [List.all_eq_true]; rw [List.take_of_length_le (by omega)] at hm; exact hm
    rw [rhzref10_Last.l0, if_neg (by omega)]
    have := rlast_l1 l hn l.length k 0 rfl (by omega) (by omega)
    rw [List.drop_zero] at this
    unfold lastS
    rw [if_pos ha]; exact this
  | succ d ih =>
    intro k i hd hi hk hm
    obtain ⟨k, rfl⟩ : ∃ m, k = m + 1 := ⟨k - 1, by omega⟩
    have hlt : i < l.length := by omega
    rw [rhzref10_Last.l0, if_pos (by omega), if_pos (by omega), rd_i l i hlt, rmay_eq, wrap_i hi hn]; simp only [Option.bind_some]
    cases hb : mayB l[i]
    · rw [if_neg (by simp)]; unfold lastS
      rw [if_neg]; intro h; rw [List.all_eq_true] at h; rw [h _ (List.getElem_mem hlt)] at hb; simp at hb
    · rw [if_pos rfl]; refine ih k (i + 1) (by omega) (by omega) (by omega) ?_
      intro x hx
      rw [List.take_succ_eq_append_getElem hlt, List.mem_append] at hx
      rcases hx with h | h
      · exact hm x h
      · rw [List.mem_singleton] at h; rw [h]; exact hb
theorem rlast_eq (l : List Int) (hn : l.length ≤ 1000) (k : Nat) (hk : l.length + l.length * (l.length + 3) + 2 ≤ k) : rhzref10_Last.f k l = some (lastS l) :=
  rlast_l0 l hn l.length k 0 rfl (by omega) hk (by simp)
theorem rfresh_eq (a b c : Int) : rhzref10_Fresh.f a b c = some (decide (0 ≤ a ∧ a ≤ 1099511627776 ∧ 0 ≤ b ∧ b ≤ 1099511627776 ∧ 0 ≤ c ∧ c ≤ 1099511627776 ∧ b ≤ a ∧ a - b < c)) := by
  unfold rhzref10_Fresh.f
  by_cases h1 : a ≥ 0
  · by_cases h2 : a ≤ 1099511627776
    · by_cases h3 : b ≥ 0
      · by_cases h4 : c ≥ 0
        · by_cases h5 : c ≤ 1099511627776
          · by_cases h6 : b ≤ a
            · have w : wrap64 (a - b) = a - b := by unfold wrap64; omega
              rw [if_pos h1, if_pos h2, if_pos h3, if_pos h4, if_pos h5, if_pos h6, w]; congr 1; rw [decide_eq_decide]; omega
            · rw [if_pos h1, if_pos h2, if_pos h3, if_pos h4, if_pos h5, if_neg h6]; congr 1; symm; rw [decide_eq_false_iff_not]; omega
          · rw [if_pos h1, if_pos h2, if_pos h3, if_pos h4, if_neg h5]; congr 1; symm; rw [decide_eq_false_iff_not]; omega
        · rw [if_pos h1, if_pos h2, if_pos h3, if_neg h4]; congr 1; symm; rw [decide_eq_false_iff_not]; omega
      · rw [if_pos h1, if_pos h2, if_neg h3]; congr 1; symm; rw [decide_eq_false_iff_not]; omega
    · rw [if_pos h1, if_neg h2]; congr 1; symm; rw [decide_eq_false_iff_not]; omega
  · rw [if_neg h1]; congr 1; symm; rw [decide_eq_false_iff_not]; omega
theorem SerialReads : rhzlaw12_SerialReads.Pure := by
  intro a b c l _ _ _ _ _ _
  refine ⟨1000000, ?_⟩
  unfold rhzlaw12_SerialReads.f
  rw [first_eq]; simp only [Option.bind_some, if_true]
  by_cases h1 : (l.length : Int) > 500
  · rw [if_pos h1]
  rw [if_neg h1]
  have hl : l.length * (l.length + 3) ≤ 500 * 503 := Nat.mul_le_mul (by omega) (by omega)
  obtain ⟨x, hx⟩ : ∃ x, serial_Add.f a b = some x := by
    by_cases h : 0 ≤ a ∧ a < 4294967296 ∧ 0 ≤ b ∧ b < 2147483648
    · exact ⟨_, add_ok a b (by omega) (by omega)⟩
    · exact ⟨_, add_bad a b h⟩
  rw [radd_eq, hx, last_eq l (by omega) _ (by omega), rlast_eq l (by omega) _ (by omega), newer_eq, rnewer_eq, fresh_eq, rfresh_eq]
  simp only [Option.bind_some, if_true, beq_self_eq_true, serial_Clip.f, rhzref10_Clip.f]

end Go.Proofs.Ytoocmjdnboldhaa.Pure
