/- The pure statement of SerialGoes: what is added is newer, of two at most one is newer, and in two steps it is the same; no conditions. -/
import Derived.Test.YtoocmjdnboldhaaPSerialGoesx2
namespace Go.Proofs.Ytoocmjdnboldhaa.Pure
open Go.RowKit Go.Proofs.Ytoocmjdnboldhaa.PSerialGoes Go.Proofs.YtoocmjdnboldhaaW.PrintWords Go.Proofs.YtoocmjdnboldhaaW.PrintLast Go.Proofs.YtoocmjdnboldhaaW.PrintMore
set_option linter.unusedVariables false

theorem may_eq (a : Int) : serial_may.f a = some (decide (0 ≤ a ∧ a < 4294967296)) := by
  by_cases h : 0 ≤ a <;> simp [serial_may.f, h]
def newB (a b : Int) : Bool := decide (0 ≤ a ∧ a < 4294967296 ∧ 0 ≤ b ∧ b < 4294967296 ∧ 1 ≤ (a - b) % 4294967296 ∧ (a - b) % 4294967296 < 2147483648)
theorem mod_eq (a b : Int) (ha : 0 ≤ a ∧ a < 4294967296) (hb : 0 ≤ b ∧ b < 4294967296) : Int.tmod (wrap64 ((wrap64 (a - b)) + 4294967296)) 4294967296 = (a - b) % 4294967296 := by
  have h1 : wrap64 (a - b) = a - b := by unfold wrap64; omega
  have h2 : wrap64 (a - b + 4294967296) = a - b + 4294967296 := by unfold wrap64; omega
  rw [h1, h2, Int.tmod_eq_emod_of_nonneg (by omega)]; omega
theorem newer_eq (a b : Int) : serial_Newer.f a b = some (newB a b) := by
  unfold serial_Newer.f newB
  rw [may_eq a]; simp only [Option.bind_some]
  by_cases ha : 0 ≤ a ∧ a < 4294967296
  · rw [if_pos (decide_eq_true ha), may_eq b]; simp only [Option.bind_some]
    by_cases hb : 0 ≤ b ∧ b < 4294967296
    · rw [if_pos (decide_eq_true hb), mod_eq a b ha hb]
      by_cases h : (a - b) % 4294967296 ≥ 1
      · rw [if_pos h]; congr 1; rw [decide_eq_decide]; omega
      · rw [if_neg h]; congr 1; symm; rw [decide_eq_false_iff_not]; omega
    · rw [if_neg (by simpa using hb)]; congr 1; symm; rw [decide_eq_false_iff_not]; omega
  · rw [if_neg (by simpa using ha)]; congr 1; symm; rw [decide_eq_false_iff_not]; omega
theorem newB_true {a b : Int} : newB a b = true ↔ (0 ≤ a ∧ a < 4294967296 ∧ 0 ≤ b ∧ b < 4294967296 ∧ 1 ≤ (a - b) % 4294967296 ∧ (a - b) % 4294967296 < 2147483648) := by unfold newB; rw [decide_eq_true_iff]
theorem newB_false {a b : Int} : newB a b = false ↔ ¬ (0 ≤ a ∧ a < 4294967296 ∧ 0 ≤ b ∧ b < 4294967296 ∧ 1 ≤ (a - b) % 4294967296 ∧ (a - b) % 4294967296 < 2147483648) := by unfold newB; rw [decide_eq_false_iff_not]
theorem first_eq : rhzlaw12_first.f = some true := by
  unfold rhzlaw12_first.f
  rw [newer_eq, newer_eq, newB_true.2 (by omega), newB_false.2 (by omega)]; rfl
theorem add_ok (a n : Int) (ha : 0 ≤ a ∧ a < 4294967296) (hn : 0 ≤ n ∧ n < 2147483648) : serial_Add.f a n = some ((a + n) % 4294967296, 0) := by
  have w : wrap64 (a + n) = a + n := by unfold wrap64; omega
  unfold serial_Add.f
  rw [may_eq, decide_eq_true ha]; simp only [Option.bind_some, if_true]
  rw [if_neg (by omega), if_neg (by omega), w, Int.tmod_eq_emod_of_nonneg (by omega)]
theorem add_bad (a n : Int) (h : ¬ (0 ≤ a ∧ a < 4294967296 ∧ 0 ≤ n ∧ n < 2147483648)) : serial_Add.f a n = some (0, 1) := by
  unfold serial_Add.f
  rw [may_eq]; simp only [Option.bind_some]
  by_cases ha : 0 ≤ a ∧ a < 4294967296
  · rw [decide_eq_true ha, if_pos rfl]
    by_cases h1 : n < 0
    · rw [if_pos h1]
    · rw [if_neg h1, if_pos (by omega)]
  · rw [decide_eq_false ha, if_neg (by simp)]
def mayB (a : Int) : Bool := decide (0 ≤ a ∧ a < 4294967296)
def nwB (l : List Int) (a : Int) : Bool := l.all (fun b => a == b || newB a b)
def lastS (l : List Int) : Int × Bool := if l.all mayB then (match l.find? (nwB l) with | some a => (a, true) | none => (0, false)) else (0, false)
theorem wrap_i {i n : Nat} (h : i ≤ n) (hn : n ≤ 1000) : wrap64 ((i : Int) + 1) = ((i + 1 : Nat) : Int) := by unfold wrap64; omega
theorem rd_i (l : List Int) (i : Nat) (h : i < l.length) : rd l (i : Int) = l[i] := by
  unfold rd; simp [h]
theorem newest_l0 (a : Int) (l : List Int) (hn : l.length ≤ 1000) (d : Nat) : ∀ (k i : Nat), l.length - i = d → i ≤ l.length → d < k →
    serial_newest.l0 k a l (l.length : Int) (i : Int) = some (nwB (l.drop i) a && mayB a) := by
  induction d with
  | zero =>
    intro k i hd hi hk
    obtain ⟨k, rfl⟩ : ∃ m, k = m + 1 := ⟨k - 1, by omega⟩
    rw [serial_newest.l0, if_neg (by omega), may_eq, List.drop_eq_nil_of_le (by omega)]; rfl
  | succ d ih =>
    intro k i hd hi hk
    obtain ⟨k, rfl⟩ : ∃ m, k = m + 1 := ⟨k - 1, by omega⟩
    have hlt : i < l.length := by omega
    have e : nwB (l.drop i) a = ((a == l[i] || newB a l[i]) && nwB (l.drop (i + 1)) a) := by
      rw [List.drop_eq_getElem_cons hlt]; rfl
    rw [serial_newest.l0, if_pos (by omega), if_pos (by omega), if_pos (by omega), rd_i l i hlt, e, wrap_i hi hn]
    by_cases h : a = l[i]
    · rw [if_pos h, ih k (i + 1) (by omega) (by omega) (by omega), (beq_iff_eq.2 h : (a == l[i]) = true)]; rfl
    · rw [if_neg h, newer_eq]; simp only [Option.bind_some]
      rw [(beq_eq_false_iff_ne.2 h : (a == l[i]) = false)]
      cases hb : newB a l[i]
      · rw [if_neg (by simp)]; rfl
      · rw [if_pos rfl, ih k (i + 1) (by omega) (by omega) (by omega)]; rfl
theorem newest_eq (a : Int) (l : List Int) (hn : l.length ≤ 1000) (k : Nat) (hk : l.length < k) : serial_newest.f k a l = some (nwB l a && mayB a) :=
  newest_l0 a l hn l.length k 0 rfl (by omega) hk
theorem last_l1 (l : List Int) (hn : l.length ≤ 1000) (hm : l.all mayB = true) (d : Nat) : ∀ (k i : Nat), l.length - i = d → i ≤ l.length → d + l.length + 1 < k →
    serial_Last.l1 k l l (l.length : Int) (i : Int) = some (match (l.drop i).find? (nwB l) with | some a => (a, true) | none => (0, false)) := by
  induction d with
  | zero =>
    intro k i hd hi hk
    obtain ⟨k, rfl⟩ : ∃ m, k = m + 1 := ⟨k - 1, by omega⟩
    rw [serial_Last.l1, if_neg (by omega), List.drop_eq_nil_of_le (by omega)]; rfl
  | succ d ih =>
    intro k i hd hi hk
    obtain ⟨k, rfl⟩ : ∃ m, k = m + 1 := ⟨k - 1, by omega⟩
    have hlt : i < l.length := by omega
    have hma : mayB l[i] = true := List.all_eq_true.1 hm _ (List.getElem_mem hlt)
    rw [serial_Last.l1, if_pos (by omega), if_pos (by omega), if_pos (by omega), rd_i l i hlt, newest_eq _ l hn k (by omega), wrap_i hi hn]; simp only [Option.bind_some]
    rw [List.drop_eq_getElem_cons hlt, List.find?_cons, hma, Bool.and_true]
    cases hb : nwB l l[i]
    · rw [if_neg (by simp)]; exact ih k (i + 1) (by omega) (by omega) (by omega)
    · rw [if_pos rfl]
theorem last_l0 (l : List Int) (hn : l.length ≤ 1000) (d : Nat) : ∀ (k i : Nat), l.length - i = d → i ≤ l.length → d + 2 * l.length + 2 < k → (∀ x ∈ l.take i, mayB x = true) →
    serial_Last.l0 k l l (l.length : Int) (i : Int) = some (lastS l) := by
  induction d with
  | zero =>
    intro k i hd hi hk hm
    obtain ⟨k, rfl⟩ : ∃ m, k = m + 1 := ⟨k - 1, by omega⟩
    have ha : l.all mayB = true := by rw [List.all_eq_true]; rw [List.take_of_length_le (by omega)] at hm; exact hm
    rw [serial_Last.l0, if_neg (by omega)]
    have := last_l1 l hn ha l.length k 0 rfl (by omega) (by omega)
    rw [List.drop_zero] at this
    unfold lastS
    rw [if_pos ha]; exact this
  | succ d ih =>
    intro k i hd hi hk hm
    obtain ⟨k, rfl⟩ : ∃ m, k = m + 1 := ⟨k - 1, by omega⟩
    have hlt : i < l.length := by omega
    rw [serial_Last.l0, if_pos (by omega), if_pos (by omega), if_pos (by omega), rd_i l i hlt, may_eq, wrap_i hi hn]; simp only [Option.bind_some]
    show (if mayB l[i] = true then _ else _) = _
    cases hb : mayB l[i]
    · rw [if_neg (by simp)]; unfold lastS
      rw [if_neg]; intro h; rw [List.all_eq_true] at h; rw [h _ (List.getElem_mem hlt)] at hb; simp at hb
    · rw [if_pos rfl]; refine ih k (i + 1) (by omega) (by omega) (by omega) ?_
      intro x hx
      rw [List.take_succ_eq_append_getElem hlt, List.mem_append] at hx
      rcases hx with h | h
      · exact hm x h
      · rw [List.mem_singleton] at h; rw [h]; exact hb
theorem last_eq (l : List Int) (hn : l.length ≤ 1000) (k : Nat) (hk : 3 * l.length + 2 < k) : serial_Last.f k l = some (lastS l) :=
  last_l0 l hn l.length k 0 rfl (by omega) (by omega) (by simp)
theorem lastS_three (a x y : Int) (ha : 0 ≤ a ∧ a < 4294967296) (hx : 0 ≤ x ∧ x < 4294967296) (hy : 0 ≤ y ∧ y < 4294967296)
    (h1 : y = a ∨ newB y a = true) (h2 : y = x ∨ newB y x = true) (h3 : a = y ∨ newB a y = false) (h4 : x = y ∨ newB x y = false) : lastS [a, x, y] = (y, true) := by
  have ma : mayB a = true := decide_eq_true ha
  have mx_ : mayB x = true := decide_eq_true hx
  have my : mayB y = true := decide_eq_true hy
  have ny : nwB [a, x, y] y = true := by
    unfold nwB; simp only [List.all_cons, List.all_nil, Bool.and_true, beq_self_eq_true, Bool.true_or, Bool.and_eq_true, Bool.or_eq_true, beq_iff_eq]
    exact ⟨h1, h2⟩
  have na : a ≠ y → nwB [a, x, y] a = false := by
    intro h; rcases h3 with g | g
    · exact absurd g h
    · unfold nwB; simp only [List.all_cons, List.all_nil, g, beq_eq_false_iff_ne.2 h]; simp
  have nx : x ≠ y → nwB [a, x, y] x = false := by
    intro h; rcases h4 with g | g
    · exact absurd g h
    · unfold nwB; simp only [List.all_cons, List.all_nil, g, beq_eq_false_iff_ne.2 h]; simp
  unfold lastS
  rw [if_pos (by simp [ma, mx_, my])]
  by_cases e : a = y
  · have : nwB [a, x, y] a = true := by rw [e] at ny ⊢; exact ny
    rw [List.find?_cons, this, e]
  rw [List.find?_cons, na e]
  by_cases e2 : x = y
  · have : nwB [a, x, y] x = true := by rw [e2] at ny ⊢; exact ny
    simp only; rw [List.find?_cons, this, e2]
  · simp only; rw [List.find?_cons, nx e2]; simp only; rw [List.find?_cons, ny]
theorem j1_true (k : Nat) (a n m x y : Int) : rhzlaw12_SerialGoes.j1 (k + 1) a n m x y true = some true := by
  rw [rhzlaw12_SerialGoes.j1, if_pos rfl, first_eq]; rfl
theorem j1_false (k : Nat) (hk : 12 ≤ k) (a n m : Int) (ha : 0 ≤ a ∧ a < 4294967296) (hn : 0 ≤ n ∧ n ≤ 1073741824) (hm : 0 ≤ m ∧ m ≤ 536870912) :
    rhzlaw12_SerialGoes.j1 (k + 1) a n m ((a + n) % 4294967296) (((a + n) % 4294967296 + m) % 4294967296) false = some true := by
  have w : wrap64 (n + m) = n + m := by unfold wrap64; omega
  have e : (a + (n + m)) % 4294967296 = ((a + n) % 4294967296 + m) % 4294967296 := by omega
  have hl : lastS [a, (a + n) % 4294967296, ((a + n) % 4294967296 + m) % 4294967296] = (((a + n) % 4294967296 + m) % 4294967296, true) := by
    apply lastS_three
    · exact ha
    · omega
    · omega
    · by_cases h : n + m = 0
      · left; omega
      · right; rw [newB_true]; omega
    · by_cases h : m = 0
      · left; omega
      · right; rw [newB_true]; omega
    · by_cases h : n + m = 0
      · left; omega
      · right; rw [newB_false]; omega
    · by_cases h : m = 0
      · left; omega
      · right; rw [newB_false]; omega
  rw [rhzlaw12_SerialGoes.j1, if_neg (by simp), w, add_ok a (n + m) ha (by omega)]; simp only [Option.bind_some]
  rw [last_eq _ (by simp) k (by simp; omega), hl]; simp only [Option.bind_some]
  rw [first_eq]; simp only [Option.bind_some, if_true]
  rw [if_pos e, beq_self_eq_true]
theorem SerialGoes : rhzlaw12_SerialGoes.Pure := by
  intro a n m _ _ _
  refine ⟨14, ?_⟩
  unfold rhzlaw12_SerialGoes.f
  rw [first_eq]; simp only [Option.bind_some, if_true]
  by_cases h : 0 ≤ a ∧ a < 4294967296 ∧ 0 ≤ n ∧ n < 2147483648
  · rw [add_ok a n (by omega) (by omega)]; simp only [Option.bind_some, if_true]
    rw [newer_eq]; simp only [Option.bind_some]
    have e1 : newB ((a + n) % 4294967296) a = decide (n > 0) := by
      unfold newB; rw [decide_eq_decide]; omega
    have e2 : newB a ((a + n) % 4294967296) = false := by rw [newB_false]; omega
    have e3 : newB a a = false := by rw [newB_false]; omega
    rw [e1, if_neg (by simp), newer_eq, e2]; simp only [Option.bind_some]
    rw [if_neg (by simp), newer_eq, e3]; simp only [Option.bind_some]
    rw [rhzlaw12_SerialGoes.j0, if_neg (by simp)]
    by_cases hm : 0 ≤ m ∧ m < 2147483648
    · rw [add_ok _ m (by omega) hm]; simp only [Option.bind_some, if_true]
      by_cases g : n > 1073741824
      · rw [if_pos g]; exact j1_true _ _ _ _ _ _
      · rw [if_neg g]
        by_cases g2 : m > 536870912
        · rw [decide_eq_true g2]; exact j1_true _ _ _ _ _ _
        · rw [decide_eq_false g2]; exact j1_false _ (by omega) _ _ _ (by omega) (by omega) (by omega)
    · rw [add_bad _ m (by omega)]; simp only [Option.bind_some]
      rw [if_neg (by simp)]; exact j1_true _ _ _ _ _ _
  · rw [add_bad a n h]; simp only [Option.bind_some]
    rw [if_neg (by simp)]; simp only [Option.bind_some, if_true]
    by_cases h1 : a < 0
    · rw [if_pos h1]
    rw [if_neg h1]
    by_cases h2 : a ≥ 4294967296
    · rw [if_pos h2]
    rw [if_neg h2]
    by_cases h3 : n < 0
    · rw [if_pos h3]
    rw [if_neg h3, decide_eq_true (by omega)]

end Go.Proofs.Ytoocmjdnboldhaa.Pure
