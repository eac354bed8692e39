/- The pure statement of SerialLast: the last of serials is newer than each other one, in whatever order they are told; no conditions. -/
import Derived.Test.YtoocmjdnboldhaaPSerialLastx2
namespace Go.Proofs.Ytoocmjdnboldhaa.Pure
open Go.RowKit Go.Proofs.Ytoocmjdnboldhaa.PSerialLast Go.Proofs.YtoocmjdnboldhaaW.PrintWords Go.Proofs.YtoocmjdnboldhaaW.PrintLast Go.Proofs.YtoocmjdnboldhaaW.PrintMore
set_option linter.unusedVariables false
set_option linter.unusedSimpArgs false

theorem may_eq (a : Int) : serial_may.f a = some (decide (0 ≤ a ∧ a < 4294967296)) := by
  by_cases h : 0 ≤ a <;> simp [serial_may.f, h]
def newB (a b : Int) : Bool := decide (0 ≤ a ∧ a < 4294967296 ∧ 0 ≤ b ∧ b < 4294967296 ∧ 1 ≤ (a - b) % 4294967296 ∧ (a - b) % 4294967296 < 2147483648)
theorem mod_eq (a b : Int) (ha : 0 ≤ a ∧ a < 4294967296) (hb : 0 ≤ b ∧ b < 4294967296) : Int.tmod (wrap64 ((wrap64 (a - b)) + 4294967296)) 4294967296 = (a - b) % 4294967296 := by
  have h1 : wrap64 (a - b) = a - b := by unfold wrap64; omega
  have h2 : wrap64 (a - b + 4294967296) = a - b + 4294967296 := by unfold wrap64; omega
  rw [h1, h2, Int.tmod_eq_emod_of_nonneg (by omega)]; omega
theorem newer_eq (a b : Int) : serial_Newer.f a b = some (newB a b) := by
  unfold serial_Newer.f newB
  rw [may_eq a]; simp only [Option.bind_some]
  by_cases ha : 0 ≤ a ∧ a < 4294967296
  · rw [if_pos (decide_eq_true ha), may_eq b]; simp only [Option.bind_some]
    by_cases hb : 0 ≤ b ∧ b < 4294967296
    · rw [if_pos (decide_eq_true hb), mod_eq a b ha hb]
      by_cases h : (a - b) % 4294967296 ≥ 1
      · rw [if_pos h]; congr 1; rw [decide_eq_decide]; omega
      · rw [if_neg h]; congr 1; symm; rw [decide_eq_false_iff_not]; omega
    · rw [if_neg (by simpa using hb)]; congr 1; symm; rw [decide_eq_false_iff_not]; omega
  · rw [if_neg (by simpa using ha)]; congr 1; symm; rw [decide_eq_false_iff_not]; omega
theorem newB_true {a b : Int} : newB a b = true ↔ (0 ≤ a ∧ a < 4294967296 ∧ 0 ≤ b ∧ b < 4294967296 ∧ 1 ≤ (a - b) % 4294967296 ∧ (a - b) % 4294967296 < 2147483648) := by unfold newB; rw [decide_eq_true_iff]
theorem newB_false {a b : Int} : newB a b = false ↔ ¬ (0 ≤ a ∧ a < 4294967296 ∧ 0 ≤ b ∧ b < 4294967296 ∧ 1 ≤ (a - b) % 4294967296 ∧ (a - b) % 4294967296 < 2147483648) := by unfold newB; rw [decide_eq_false_iff_not]
theorem first_eq : rhzlaw12_first.f = some true := by
  unfold rhzlaw12_first.f
  rw [newer_eq, newer_eq, newB_true.2 (by omega), newB_false.2 (by omega)]; rfl
def mayB (a : Int) : Bool := decide (0 ≤ a ∧ a < 4294967296)
def nwB (l : List Int) (a : Int) : Bool := l.all (fun b => a == b || newB a b)
def lastS (l : List Int) : Int × Bool := if l.all mayB then (match l.find? (nwB l) with | some a => (a, true) | none => (0, false)) else (0, false)
theorem wrap_i {i n : Nat} (h : i ≤ n) (hn : n ≤ 1000) : wrap64 ((i : Int) + 1) = ((i + 1 : Nat) : Int) := by unfold wrap64; omega
theorem rd_i (l : List Int) (i : Nat) (h : i < l.length) : rd l (i : Int) = l[i] := by
  unfold rd; simp [h]
theorem newest_l0 (a : Int) (l : List Int) (hn : l.length ≤ 1000) (d : Nat) : ∀ (k i : Nat), l.length - i = d → i ≤ l.length → d < k →
    serial_newest.l0 k a l (l.length : Int) (i : Int) = some (nwB (l.drop i) a && mayB a) := by
  induction d with
  | zero =>
    intro k i hd hi hk
    obtain ⟨k, rfl⟩ : ∃ m, k = m + 1 := ⟨k - 1, by omega⟩
    rw [serial_newest.l0, if_neg (by omega), may_eq, List.drop_eq_nil_of_le (by omega)]; rfl
  | succ d ih =>
    intro k i hd hi hk
    obtain ⟨k, rfl⟩ : ∃ m, k = m + 1 := ⟨k - 1, by omega⟩
    have hlt : i < l.length := by omega
    have e : nwB (l.drop i) a = ((a == l[i] || newB a l[i]) && nwB (l.drop (i + 1)) a) := by
      rw [List.drop_eq_getElem_cons hlt]; rfl
    rw [serial_newest.l0, if_pos (by omega), if_pos (by omega), if_pos (by omega), rd_i l i hlt, e, wrap_i hi hn]
    by_cases h : a = l[i]
    · rw [if_pos h, ih k (i + 1) (by omega) (by omega) (by omega), (beq_iff_eq.2 h : (a == l[i]) = true)]; rfl
    · rw [if_neg h, newer_eq]; simp only [Option.bind_some]
      rw [(beq_eq_false_iff_ne.2 h : (a == l[i]) = false)]
      cases hb : newB a l[i]
      · rw [if_neg (by simp)]; rfl
      · rw [if_pos rfl, ih k (i + 1) (by omega) (by omega) (by omega)]; rfl
theorem newest_eq (a : Int) (l : List Int) (hn : l.length ≤ 1000) (k : Nat) (hk : l.length < k) : serial_newest.f k a l = some (nwB l a && mayB a) :=
  newest_l0 a l hn l.length k 0 rfl (by omega) hk
theorem last_l1 (l : List Int) (hn : l.length ≤ 1000) (hm : l.all mayB = true) (d : Nat) : ∀ (k i : Nat), l.length - i = d → i ≤ l.length → d + l.length + 1 < k →
    serial_Last.l1 k l l (l.length : Int) (i : Int) = some (match (l.drop i).find? (nwB l) with | some a => (a, true) | none => (0, false)) := by
  induction d with
  | zero =>
    intro k i hd hi hk
    obtain ⟨k, rfl⟩ : ∃ m, k = m + 1 := ⟨k - 1, by omega⟩
    rw [serial_Last.l1, if_neg (by omega), List.drop_eq_nil_of_le (by omega)]; rfl
  | succ d ih =>
    intro k i hd hi hk
    obtain ⟨k, rfl⟩ : ∃ m, k = m + 1 := ⟨k - 1, by omega⟩
    have hlt : i < l.length := by omega
    have hma : mayB l[i] = true := List.all_eq_true.1 hm _ (List.getElem_mem hlt)
    rw [serial_Last.l1, if_pos (by omega), if_pos (by omega), if_pos (by omega), rd_i l i hlt, newest_eq _ l hn k (by omega), wrap_i hi hn]; simp only [Option.bind_some]
    rw [List.drop_eq_getElem_cons hlt, List.find?_cons, hma, Bool.and_true]
    cases hb : nwB l l[i]
    · rw [if_neg (by simp)]; exact ih k (i + 1) (by omega) (by omega) (by omega)
    · rw [if_pos rfl]
theorem last_l0 (l : List Int) (hn : l.length ≤ 1000) (d : Nat) : ∀ (k i : Nat), l.length - i = d → i ≤ l.length → d + 2 * l.length + 2 < k → (∀ x ∈ l.take i, mayB x = true) →
    serial_Last.l0 k l l (l.length : Int) (i : Int) = some (lastS l) := by
  induction d with
  | zero =>
    intro k i hd hi hk hm
    obtain ⟨k, rfl⟩ : ∃ m, k = m + 1 := ⟨k - 1, by omega⟩
    have ha : l.all mayB = true := by rw [List.all_eq_true]; rw [List.take_of_length_le (by omega)] at hm; exact hm
    rw [serial_Last.l0, if_neg (by omega)]
    have := last_l1 l hn ha l.length k 0 rfl (by omega) (by omega)
    rw [List.drop_zero] at this
    unfold lastS
    rw [if_pos ha]; exact this
  | succ d ih =>
    intro k i hd hi hk hm
    obtain ⟨k, rfl⟩ : ∃ m, k = m + 1 := ⟨k - 1, by omega⟩
    have hlt : i < l.length := by omega
    rw [serial_Last.l0, if_pos (by omega), if_pos (by omega), if_pos (by omega), rd_i l i hlt, may_eq, wrap_i hi hn]; simp only [Option.bind_some]
    show (if mayB l[i] = true then _ else _) = _
    cases hb : mayB l[i]
    · rw [if_neg (by simp)]; unfold lastS
      rw [if_neg]; intro h; rw [List.all_eq_true] at h; rw [h _ (List.getElem_mem hlt)] at hb; simp at hb
    · rw [if_pos rfl]; refine ih k (i + 1) (by omega) (by omega) (by omega) ?_
      intro x hx
      rw [List.take_succ_eq_append_getElem hlt, List.mem_append] at hx
      rcases hx with h | h
      · exact hm x h
      · rw [List.mem_singleton] at h; rw [h]; exact hb
theorem last_eq (l : List Int) (hn : l.length ≤ 1000) (k : Nat) (hk : 3 * l.length + 2 < k) : serial_Last.f k l = some (lastS l) :=
  last_l0 l hn l.length k 0 rfl (by omega) (by omega) (by simp)
theorem newB_asym {a b : Int} (h : newB a b = true) : newB b a = false := by
  rw [newB_true] at h; rw [newB_false]; omega
theorem lastS_some {l : List Int} {a : Int} (ha : l.all mayB = true) (hm : a ∈ l) (h : nwB l a = true) : lastS l = (a, true) := by
  unfold lastS; rw [if_pos ha]
  cases e : l.find? (nwB l) with
  | none => rw [List.find?_eq_none] at e; exact absurd h (e a hm)
  | some b =>
    have hb := List.find?_some e
    have hbm := List.mem_of_find?_eq_some e
    have h1 : a = b ∨ newB a b = true := by unfold nwB at h; have := List.all_eq_true.1 h b hbm; simpa using this
    have h2 : b = a ∨ newB b a = true := by unfold nwB at hb; have := List.all_eq_true.1 hb a hm; simpa using this
    rcases h1 with h1 | h1
    · rw [h1]
    · rcases h2 with h2 | h2
      · rw [h2]
      · rw [newB_asym h1] at h2; exact absurd h2 (by simp)
theorem lastS_cases (l : List Int) : (lastS l = (0, false) ∧ (l.all mayB = false ∨ ∀ a ∈ l, nwB l a = false)) ∨ ∃ a, lastS l = (a, true) ∧ a ∈ l ∧ nwB l a = true ∧ l.all mayB = true := by
  cases ha : l.all mayB
  · left; refine ⟨?_, .inl rfl⟩; unfold lastS; rw [if_neg (by rw [ha]; simp)]
  · cases e : l.find? (nwB l) with
    | none =>
      left; refine ⟨?_, .inr ?_⟩
      · unfold lastS; rw [if_pos ha, e]
      · intro a hm; rw [List.find?_eq_none] at e; simpa using e a hm
    | some b => right; exact ⟨b, lastS_some ha (List.mem_of_find?_eq_some e) (List.find?_some e), List.mem_of_find?_eq_some e, List.find?_some e, rfl⟩
theorem nwB_congr {l t : List Int} (h : ∀ x, x ∈ l ↔ x ∈ t) (a : Int) : nwB l a = nwB t a := by
  unfold nwB; rw [Bool.eq_iff_iff, List.all_eq_true, List.all_eq_true]
  exact ⟨fun g x hx => g x ((h x).2 hx), fun g x hx => g x ((h x).1 hx)⟩
theorem lastS_congr {l t : List Int} (h : ∀ x, x ∈ l ↔ x ∈ t) : lastS l = lastS t := by
  have hall : l.all mayB = t.all mayB := by
    rw [Bool.eq_iff_iff, List.all_eq_true, List.all_eq_true]
    exact ⟨fun g x hx => g x ((h x).2 hx), fun g x hx => g x ((h x).1 hx)⟩
  rcases lastS_cases l with ⟨e, hn⟩ | ⟨a, e, hm, hn, ha⟩
  · rcases lastS_cases t with ⟨e', _⟩ | ⟨b, e', hm', hn', ha'⟩
    · rw [e, e']
    · rcases hn with hn | hn
      · rw [hall, ha'] at hn; exact absurd hn (by simp)
      · have := hn b ((h b).2 hm'); rw [nwB_congr h, hn'] at this; exact absurd this (by simp)
  · rw [e]; symm; apply lastS_some (by rw [← hall]; exact ha) ((h a).1 hm); rw [← nwB_congr h]; exact hn
def rotL (l : List Int) (q i : Nat) : List Int := (List.range i).map fun j => l.getD ((j + q) % l.length) 0
theorem rotL_succ (l : List Int) (q i : Nat) : rotL l q (i + 1) = rotL l q i ++ [l.getD ((i + q) % l.length) 0] := by
  unfold rotL; rw [List.range_succ, List.map_append]; rfl
theorem rotL_mem (l : List Int) (q : Nat) (x : Int) : x ∈ l ↔ x ∈ rotL l q l.length := by
  unfold rotL; rw [List.mem_map]
  constructor
  · intro hx
    obtain ⟨i, hi, rfl⟩ := List.getElem_of_mem hx
    have hp : 0 < l.length := by omega
    have hq : q % l.length < l.length := Nat.mod_lt _ hp
    have hd := Nat.div_add_mod q l.length
    by_cases h : q % l.length ≤ i
    · refine ⟨i - q % l.length, List.mem_range.2 (by omega), ?_⟩
      have e : (i - q % l.length + q) % l.length = i := by
        have : i - q % l.length + q = i + l.length * (q / l.length) := by omega
        rw [this, Nat.add_mul_mod_self_left, Nat.mod_eq_of_lt hi]
      rw [e]; simp [hi]
    · refine ⟨i + l.length - q % l.length, List.mem_range.2 (by omega), ?_⟩
      have e : (i + l.length - q % l.length + q) % l.length = i := by
        have : i + l.length - q % l.length + q = i + l.length * (q / l.length + 1) := by rw [Nat.mul_add]; omega
        rw [this, Nat.add_mul_mod_self_left, Nat.mod_eq_of_lt hi]
      rw [e]; simp [hi]
  · rintro ⟨j, hj, rfl⟩
    rw [List.mem_range] at hj
    have : (j + q) % l.length < l.length := Nat.mod_lt _ (by omega)
    rw [List.getD_eq_getElem?_getD, List.getElem?_eq_getElem this]; simp
theorem j4_eq (k : Nat) (l : List Int) (a : Int) (o : Bool) (i : Int) : rhzlaw12_SerialLast.j4 (k + 1) l a o i false = some true := by
  rw [rhzlaw12_SerialLast.j4, if_neg (by simp), first_eq]; rfl
theorem l1_eq (l : List Int) (hn : l.length ≤ 500) (a : Int) (o : Bool) (h : o = true → nwB l a = true) (d : Nat) : ∀ (k i : Nat), l.length - i = d → i ≤ l.length → 2 * d + 1 < k →
    rhzlaw12_SerialLast.l1 k l a o (i : Int) = some true := by
  induction d with
  | zero =>
    intro k i hd hi hk
    obtain ⟨k, rfl⟩ : ∃ m, k = m + 1 := ⟨k - 1, by omega⟩
    rw [rhzlaw12_SerialLast.l1, if_neg (by omega)]
    obtain ⟨k, rfl⟩ : ∃ m, k = m + 1 := ⟨k - 1, by omega⟩
    exact j4_eq _ _ _ _ _
  | succ d ih =>
    intro k i hd hi hk
    obtain ⟨k, rfl⟩ : ∃ m, k = m + 1 := ⟨k - 1, by omega⟩
    obtain ⟨k, rfl⟩ : ∃ m, k = m + 1 := ⟨k - 1, by omega⟩
    have hlt : i < l.length := by omega
    rw [rhzlaw12_SerialLast.l1, if_pos (by omega)]
    cases o
    · exact j4_eq _ _ _ _ _
    · rw [rhzlaw12_SerialLast.j4, if_pos rfl, if_pos (by omega), if_pos (by omega), rd_i l i hlt, wrap_i hi (by omega)]
      by_cases e : l[i] = a
      · rw [if_pos e]; exact ih k (i + 1) (by omega) (by omega) (by omega)
      · have hw := h rfl
        unfold nwB at hw
        have := List.all_eq_true.1 hw l[i] (List.getElem_mem hlt)
        have hb : newB a l[i] = true := by
          rw [Bool.or_eq_true, beq_iff_eq] at this
          rcases this with g | g
          · exact absurd g.symm e
          · exact g
        rw [if_neg e, newer_eq, hb]; simp only [Option.bind_some, if_true]
        exact ih k (i + 1) (by omega) (by omega) (by omega)
def goodB (l : List Int) : Bool := l.all mayB
theorem l0_eq (l : List Int) (hn : l.length ≤ 500) (h1 : 1 ≤ l.length) (turn : Int) (ht : 0 ≤ turn ∧ turn ≤ 9223372036854775807) (d : Nat) : ∀ (k i : Nat), l.length - i = d → i ≤ l.length → d + 3 * l.length + 20 < k →
    rhzlaw12_SerialLast.l0 k l turn (rotL l (turn % (l.length : Int)).toNat i) ((l.take i).all mayB) (i : Int) = some true := by
  induction d with
  | zero =>
    intro k i hd hi hk
    obtain ⟨k, rfl⟩ : ∃ m, k = m + 1 := ⟨k - 1, by omega⟩
    have hil : i = l.length := by omega
    have hrl : (rotL l (turn % (l.length : Int)).toNat l.length).length = l.length := by unfold rotL; simp
    rw [hil, List.take_length]
    rw [rhzlaw12_SerialLast.l0, if_neg (by omega), last_eq l (by omega) k (by omega)]; simp only [Option.bind_some]
    rw [last_eq _ (by omega) k (by omega)]; simp only [Option.bind_some]
    rw [← lastS_congr (rotL_mem l _), if_pos (by omega), last_eq _ (by simp) k (by simp; omega)]; simp only [Option.bind_some]
    rw [if_neg (by simp)]; simp only [if_true]
    have hj2 : ∀ o : Bool, (o = true → nwB l (lastS l).1 = true) → rhzlaw12_SerialLast.j2 k l (lastS l).1 o false = some true := by
      intro o ho
      obtain ⟨k, rfl⟩ : ∃ m, k = m + 1 := ⟨k - 1, by omega⟩
      rw [rhzlaw12_SerialLast.j2, if_neg (by simp)]
      exact l1_eq l hn _ o ho l.length k 0 rfl (by omega) (by omega)
    have hr0 : rd l 0 = l[0] := rd_i l 0 (by omega)
    have hone : l.all mayB = true → lastS [rd l 0, rd l 0] = (rd l 0, true) := by
      intro ha
      have hm : mayB (rd l 0) = true := by rw [hr0]; exact List.all_eq_true.1 ha _ (List.getElem_mem _)
      apply lastS_some
      · simp [hm]
      · simp
      · unfold nwB; simp
    rcases lastS_cases l with ⟨e, hn'⟩ | ⟨a, e, hm, hnw, ha⟩
    · rw [e]; simp only
      rw [if_neg (by simp)]; simp only [if_true]
      rw [e] at hj2
      cases hg : l.all mayB
      · rw [if_neg (by simp)]; exact hj2 false (by simp)
      · rw [if_pos rfl, hone hg]; simp only [if_true]
        rw [bne_self_eq_false]; exact hj2 false (by simp)
    · rw [e]; simp only [if_true]
      rw [e] at hj2
      rw [ha, if_pos rfl, hone ha]; simp only [if_true]
      rw [bne_self_eq_false]; exact hj2 true (fun _ => hnw)
  | succ d ih =>
    intro k i hd hi hk
    obtain ⟨k, rfl⟩ : ∃ m, k = m + 1 := ⟨k - 1, by omega⟩
    have hlt : i < l.length := by omega
    have hm0 : 0 ≤ turn % (l.length : Int) := Int.emod_nonneg _ (by omega)
    have hm1 : turn % (l.length : Int) < l.length := Int.emod_lt_of_pos _ (by omega)
    have w : wrap64 ((i : Int) + Int.tmod turn (l.length : Int)) = ((i + (turn % (l.length : Int)).toNat : Nat) : Int) := by
      rw [Int.tmod_eq_emod_of_nonneg ht.1]; unfold wrap64; omega
    have w2 : Int.tmod ((i + (turn % (l.length : Int)).toNat : Nat) : Int) (l.length : Int) = (((i + (turn % (l.length : Int)).toNat) % l.length : Nat) : Int) := by
      rw [Int.tmod_eq_emod_of_nonneg (by omega)]; rfl
    have hp : (i + (turn % (l.length : Int)).toNat) % l.length < l.length := Nat.mod_lt _ (by omega)
    have hrlen : (rotL l (turn % (l.length : Int)).toNat i).length = i := by unfold rotL; simp
    have e1 : rd l (((i + (turn % (l.length : Int)).toNat) % l.length : Nat) : Int) = l.getD ((i + (turn % (l.length : Int)).toNat) % l.length) 0 := by
      unfold rd; simp only [Int.toNat_natCast]
    have e2 : (l.take (i + 1)).all mayB = ((l.take i).all mayB && mayB l[i]) := by
      rw [List.take_succ_eq_append_getElem hlt, List.all_append]; simp
    have hih := ih k (i + 1) (by omega) (by omega) (by omega)
    rw [rotL_succ, e2] at hih
    rw [rhzlaw12_SerialLast.l0, if_pos (by omega), if_neg (by omega), w, w2, if_pos (by omega), if_pos (by omega), if_pos (by rw [hrlen]; omega), e1]; simp only [Option.bind_some]
    rw [wrap_i hi (by omega), rd_i l i hlt]
    cases hb : (l.take i).all mayB
    · rw [if_neg (by simp)]; rw [hb, Bool.false_and] at hih; exact hih
    · rw [if_pos rfl, if_pos (by omega)]
      rw [hb, Bool.true_and] at hih
      by_cases g : l[i] ≥ 0
      · rw [if_pos g]
        have : decide (l[i] < 4294967296) = mayB l[i] := by unfold mayB; rw [decide_eq_decide]; omega
        rw [this]; exact hih
      · rw [if_neg g]
        have : mayB l[i] = false := by unfold mayB; rw [decide_eq_false_iff_not]; omega
        rw [this] at hih; exact hih
theorem j0_true (k : Nat) (hk : 5 ≤ k) (l : List Int) (t : Int) : rhzlaw12_SerialLast.j0 (k + 1) l t true = some true := by
  rw [rhzlaw12_SerialLast.j0, if_pos rfl, last_eq [] (by simp) k (by simp; omega)]; simp only [Option.bind_some]
  rw [first_eq]; rfl
theorem SerialLast : rhzlaw12_SerialLast.Pure := by
  intro l t _ _ _ ht
  have ht' : t ≤ 9223372036854775807 := by
    have := ht
    simp [Lit.wf, IntKind.wrap, IntKind.bits, IntKind.signed] at this
    omega
  refine ⟨3000, ?_⟩
  unfold rhzlaw12_SerialLast.f
  rw [first_eq]; simp only [Option.bind_some, if_true]
  by_cases h1 : (l.length : Int) > 500
  · rw [if_pos h1]; exact j0_true _ (by omega) _ _
  rw [if_neg h1]
  by_cases h2 : (l.length : Int) < 1
  · rw [if_pos h2]; exact j0_true _ (by omega) _ _
  rw [if_neg h2]
  by_cases h3 : t < 0
  · rw [decide_eq_true h3]; exact j0_true _ (by omega) _ _
  · rw [decide_eq_false h3, rhzlaw12_SerialLast.j0, if_neg (by simp)]
    have := l0_eq l (by omega) (by omega) t ⟨by omega, ht'⟩ l.length 2999 0 rfl (by omega) (by omega)
    simpa [rotL] using this

end Go.Proofs.Ytoocmjdnboldhaa.Pure
