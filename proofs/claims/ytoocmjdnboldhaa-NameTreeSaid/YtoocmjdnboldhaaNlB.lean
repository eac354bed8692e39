/- What the printed functions of the package name come to, in the words of lists of labels: split, Lower, joined, Compare, Under, Parent, Common, May. -/
import Derived.Test.YtoocmjdnboldhaaNlA
import Derived.Test.YtoocmjdnboldhaaPNameTreex1
import Derived.Test.YtoocmjdnboldhaaPNameTreex2
import Derived.Test.YtoocmjdnboldhaaPNameTreex3
import Derived.Test.YtoocmjdnboldhaaPNameTreex4
namespace Go.Proofs.Ytoocmjdnboldhaa.Nl
open Go.RowKit Go.Proofs.Ytoocmjdnboldhaa.PNameTree Go.Proofs.YtoocmjdnboldhaaW.PrintWords Go.Proofs.YtoocmjdnboldhaaW.PrintLast Go.Proofs.YtoocmjdnboldhaaW.PrintMore
set_option linter.unusedVariables false
set_option linter.unusedSimpArgs false
def mk (t : T) : ByteArray := ⟨t.toArray⟩
theorem mk_data (a : ByteArray) : mk a.data.toList = a := rfl
theorem mk_eq (a : ByteArray) : ∃ t, a = mk t := ⟨a.data.toList, rfl⟩
theorem mk_size (t : T) : (mk t).size = t.length := by unfold mk; exact List.size_toArray
theorem mk_list (t : T) : (mk t).toList = t := by rw [ByteArray.toList_eq]; rfl
theorem mk_inj {a b : T} : mk a = mk b ↔ a = b := ⟨fun h => by rw [← mk_list a, h, mk_list], fun h => h ▸ rfl⟩
theorem mk_extract (t : T) (a b : Nat) : (mk t).extract a b = mk ((t.take b).drop a) := by
  apply ByteArray.ext
  simp [mk, List.extract_eq_drop_take', List.take_drop]
  by_cases h : a ≤ b
  · rw [show a + (b - a) = b from by omega]
  · rw [List.drop_eq_nil_of_le (by rw [List.length_take]; omega), List.drop_eq_nil_of_le (by rw [List.length_take]; omega)]
theorem wrap_small {n : Int} (h : 0 ≤ n) (h' : n ≤ 1000000000) : wrap64 n = n := by unfold wrap64; omega
theorem wrap_sub {a b : Nat} (h : b ≤ a) (h' : a ≤ 1000000) : wrap64 ((a : Int) - (b : Int)) = ((a - b : Nat) : Int) := by rw [wrap_small (by omega) (by omega)]; omega
theorem wrap_add {a b : Nat} (h' : a ≤ 1000000) (h2 : b ≤ 1000000) : wrap64 ((a : Int) + (b : Int)) = ((a + b : Nat) : Int) := by rw [wrap_small (by omega) (by omega)]; omega
theorem wrap_succ {a : Nat} (h' : a ≤ 1000000) : wrap64 ((a : Int) + 1) = ((a + 1 : Nat) : Int) := by rw [wrap_small (by omega) (by omega)]; omega
theorem mn_len (x y : List T) : mn ((x.map mk).length : Int) ((y.map mk).length : Int) = (min x.length y.length : Nat) := by unfold mn; rw [List.length_map, List.length_map]; split <;> omega
theorem mk_bt (t : T) (i : Nat) (h : i < t.length) : bt (mk t) (i : Int) = (t[i].toNat : Int) := by
  unfold bt
  have h' : (i : Int).toNat < (mk t).size := by rw [mk_size]; simpa using h
  rw [dif_pos h']; rfl
theorem low_eq : lowB = low := rfl
theorem lower_ref (t : T) (h : t.length ≤ 1000000) : name_Lower.f (mk t) = some (mk (lowT t)) := by
  unfold name_Lower.f; rw [mk_size, if_pos (by omega)]; rfl
theorem joined_ref (ls : List T) (h : (enc ls).length ≤ 1000000) : name_joined.f (ls.map mk) = some (mk (enc ls)) := by
  have e : joinB (ls.map mk) = enc ls := by
    unfold joinB joinPre enc
    congr 1
    induction ls with
    | nil => rfl
    | cons x ls ih => rw [List.map_cons, List.flatMap_cons, List.flatMap_cons, ih (by rw [enc_len_cons] at h; omega), mk_size]; rfl
  unfold name_joined.f; rw [e, if_pos (by omega)]; rfl
theorem split_l0 : ∀ (n : Nat) (t : T) (acc : List T) (k : Nat), t.length < n → n ≤ 1000 → 2 * n < k → acc.length + t.length ≤ 1000 →
    name_split.l0 k (mk t) (acc.map mk) = some ((splitS n t acc).1.map mk, (splitS n t acc).2)
  | 0, t, acc, k, h, _, _, _ => by omega
  | n + 1, [], acc, k, h, _, hk, _ => by
    obtain ⟨k, rfl⟩ : ∃ m, k = m + 1 := ⟨k - 1, by omega⟩
    rw [name_split.l0, mk_list, if_pos rfl]; rfl
  | n + 1, c :: t, acc, k, h, hn, hk, ha => by
    obtain ⟨k, rfl⟩ : ∃ m, k = m + 2 := ⟨k - 2, by omega⟩
    simp only [List.length_cons] at h ha
    have hb : bt (mk (c :: t)) 0 = (c.toNat : Int) := mk_bt (c :: t) 0 (by simp)
    have hc := c.toNat_lt
    have w : wrap64 (c.toNat : Int) = (c.toNat : Int) := by unfold wrap64; omega
    have w2 : wrap64 (1 + (c.toNat : Int)) = ((1 + c.toNat : Nat) : Int) := by unfold wrap64; omega
    have hs : ((mk (c :: t)).size : Int) = (t.length : Int) + 1 := by rw [mk_size]; simp
    rw [name_split.l0, mk_list, if_neg (by simp), if_pos (by omega), hb, w, splitS]
    by_cases h0 : c.toNat = 0
    · rw [if_pos (by omega), if_pos h0]
      have : c = 0 := by rw [← UInt8.toNat_inj]; simpa using h0
      subst this
      have : ((0 :: t : T) == [0]) = (t == []) := by cases t <;> rfl
      rw [this]
    rw [if_neg (by omega), if_neg h0]
    by_cases h1 : c.toNat > 63 ∨ c.toNat ≥ t.length + 1
    · rw [if_pos h1]
      by_cases h2 : (c.toNat : Int) > 63
      · rw [if_pos h2, name_split.j1, if_pos rfl]; rfl
      · rw [if_neg h2, hs, decide_eq_true (by omega), name_split.j1, if_pos rfl]; rfl
    · rw [if_neg h1, if_neg (by omega), hs, decide_eq_false (by omega), name_split.j1, if_neg (by simp), w2, if_pos (by omega), hs, if_pos (by omega)]
      have e1 : (mk (c :: t)).extract 1 ((1 + c.toNat : Nat) : Int).toNat = mk (t.take c.toNat) := by
        rw [mk_extract, Int.toNat_natCast, Nat.add_comm 1, List.take_succ_cons]; rfl
      have e2 : (mk (c :: t)).extract ((1 + c.toNat : Nat) : Int).toNat (mk (c :: t)).size = mk (t.drop c.toNat) := by
        rw [mk_extract, mk_size, Int.toNat_natCast, List.take_length, Nat.add_comm 1]; rfl
      rw [e1, lower_ref _ (by rw [List.length_take]; omega)]
      simp only [Option.bind_some, mk_list]
      by_cases h3 : lowT (t.take c.toNat) = t.take c.toNat
      · rw [if_pos h3, if_pos h3, if_pos (by rw [List.length_map]; omega), if_pos (by omega), e2]
        have := split_l0 n (t.drop c.toNat) (acc ++ [t.take c.toNat]) k (by rw [List.length_drop]; omega) (by omega) (by omega) (by rw [List.length_append, List.length_drop]; simp; omega)
        rw [List.map_append] at this
        exact this
      · rw [if_neg h3, if_neg h3]; rfl
/-- Labels of a text, and is it a name: as the program tells it. -/
def spl (t : T) : List T × Bool := if t.length ≤ 255 then splitS 256 t [] else ([], false)
theorem spl_nm (t : T) : nm t = if (spl t).2 then some (spl t).1 else none := by
  unfold nm spl
  by_cases h : t.length ≤ 255
  · rw [if_pos h, if_pos h]
  · rw [if_neg h, if_neg h]; rfl
theorem split_ref (t : T) (k : Nat) (hk : 1000 ≤ k) : name_split.f k (mk t) = some ((spl t).1.map mk, (spl t).2) := by
  unfold name_split.f spl
  by_cases h : t.length ≤ 255
  · rw [mk_size, if_neg (by omega), if_pos h]
    exact split_l0 256 t [] k (by omega) (by omega) (by omega) (by simp; omega)
  · rw [mk_size, if_pos (by omega), if_neg h]; rfl
theorem spl_some {t : T} {ls : List T} (h : nm t = some ls) : spl t = (ls, true) := by
  rw [spl_nm] at h
  by_cases h2 : (spl t).2 = true
  · rw [if_pos h2] at h; injection h with h; rw [← h, ← h2]
  · rw [if_neg h2] at h; cases h
theorem spl_none {t : T} (h : nm t = none) : (spl t).2 = false := by
  rw [spl_nm] at h
  by_cases h2 : (spl t).2 = true
  · rw [if_pos h2] at h; cases h
  · simpa using h2
theorem may_ref (t : T) (k : Nat) (hk : 1000 ≤ k) : name_May.f k (mk t) = some (nm t).isSome := by
  unfold name_May.f; rw [split_ref t k hk]; simp only [Option.bind_some]
  cases h : nm t with
  | none => rw [spl_none h]; rfl
  | some ls => rw [spl_some h]; rfl
/-! ### Compare -/
theorem less_eq (x y : T) : (Op.bytesLess x y = true) = (x < y) := by rw [bytesLess_eq]; simp
theorem cmpS_ref (x y : T) : cmp_Compare_string.f (mk x) (mk y) = some (cmpT x y) := by
  unfold cmp_Compare_string.f cmpT
  rw [mk_list, mk_list]
  congr 1
  simp only [less_eq]
  by_cases h : x < y
  · rw [if_pos h, if_pos h]
  · rw [if_neg h, if_neg h]
    by_cases h2 : x = y
    · subst h2; rw [if_pos rfl, if_neg h]
    · rw [if_neg h2]; rcases T_tri x y with h3 | h3 | h3
      · exact absurd h3 h
      · exact absurd h3 h2
      · rw [if_pos h3]
theorem cmpI_ref (a b : Int) : cmp_Compare_int.f a b = some (if a < b then -1 else if b < a then 1 else 0) := by
  unfold cmp_Compare_int.f cmp_isNaN_int.f; simp
  by_cases h : a < b
  · rw [if_pos h, if_pos h]
  · rw [if_neg h, if_neg h]; by_cases h2 : b < a
    · rw [if_pos h2, if_pos h2]
    · rw [if_neg h2, if_neg h2]
theorem rdOf_map (l : List T) (i : Nat) (h : i < l.length) : rdOf ByteArray.empty (l.map mk) (i : Int) = mk l[i] := by
  unfold rdOf; simp [h]
theorem cmp_l0 (x y : List T) (hx : x.length ≤ 300) (hy : y.length ≤ 300) (d : Nat) : ∀ (k i : Nat), min x.length y.length - i = d → i ≤ min x.length y.length → d < k →
    name_Compare.l0 k (x.map mk) (y.map mk) ((i + 1 : Nat) : Int) = some (cmpL (x.take (x.length - i)).reverse (y.take (y.length - i)).reverse) := by
  induction d with
  | zero =>
    intro k i hd hi hk
    obtain ⟨k, rfl⟩ : ∃ m, k = m + 1 := ⟨k - 1, by omega⟩
    have hm := mn_len x y
    rw [name_Compare.l0, hm, if_neg (by omega), cmpI_ref]; simp only [Option.bind_some, List.length_map]
    by_cases h : x.length < y.length
    · have e1 : x.length - i = 0 := by omega
      obtain ⟨z, zs, hz⟩ : ∃ z zs, (y.take (y.length - i)).reverse = z :: zs := by
        cases hh : (y.take (y.length - i)).reverse with
        | nil => have := congrArg List.length hh; simp at this; omega
        | cons z zs => exact ⟨z, zs, rfl⟩
      rw [if_pos (by omega), e1, hz]; rfl
    · by_cases h2 : y.length < x.length
      · have e1 : y.length - i = 0 := by omega
        obtain ⟨z, zs, hz⟩ : ∃ z zs, (x.take (x.length - i)).reverse = z :: zs := by
          cases hh : (x.take (x.length - i)).reverse with
          | nil => have := congrArg List.length hh; simp at this; omega
          | cons z zs => exact ⟨z, zs, rfl⟩
        rw [if_neg (by omega), if_pos (by omega), e1, hz]; rfl
      · have e1 : x.length - i = 0 := by omega
        have e2 : y.length - i = 0 := by omega
        rw [if_neg (by omega), if_neg (by omega), e1, e2]; rfl
  | succ d ih =>
    intro k i hd hi hk
    obtain ⟨k, rfl⟩ : ∃ m, k = m + 1 := ⟨k - 1, by omega⟩
    have hx1 : x.length - (i + 1) < x.length := by omega
    have hy1 : y.length - (i + 1) < y.length := by omega
    have e1 : (x.take (x.length - i)).reverse = x[x.length - (i + 1)] :: (x.take (x.length - (i + 1))).reverse := by
      rw [show x.length - i = x.length - (i + 1) + 1 from by omega, List.take_succ_eq_append_getElem hx1, List.reverse_append, List.reverse_singleton, List.singleton_append]
    have e2 : (y.take (y.length - i)).reverse = y[y.length - (i + 1)] :: (y.take (y.length - (i + 1))).reverse := by
      rw [show y.length - i = y.length - (i + 1) + 1 from by omega, List.take_succ_eq_append_getElem hy1, List.reverse_append, List.reverse_singleton, List.singleton_append]
    have hix : i + 1 ≤ x.length := by omega
    have hiy : i + 1 ≤ y.length := by omega
    have him : i + 1 ≤ min x.length y.length := by omega
    have hih := ih k (i + 1) (by omega) (by omega) (by omega)
    have hm := mn_len x y
    have w1 : wrap64 (((x.map mk).length : Int) - ((i + 1 : Nat) : Int)) = ((x.length - (i + 1) : Nat) : Int) := by rw [List.length_map]; exact wrap_sub hix (by omega)
    have w2 : wrap64 (((y.map mk).length : Int) - ((i + 1 : Nat) : Int)) = ((y.length - (i + 1) : Nat) : Int) := by rw [List.length_map]; exact wrap_sub hiy (by omega)
    have w3 : wrap64 (((i + 1 : Nat) : Int) + 1) = ((i + 1 + 1 : Nat) : Int) := wrap_succ (by omega)
    rw [name_Compare.l0, hm, if_pos (Int.ofNat_le.2 him), w1, w2, if_pos (Int.natCast_nonneg _), if_pos (by rw [List.length_map]; exact Int.ofNat_lt.2 hx1), if_pos (Int.natCast_nonneg _), if_pos (by rw [List.length_map]; exact Int.ofNat_lt.2 hy1), rdOf_map x _ hx1, rdOf_map y _ hy1, cmpS_ref]
    simp only [Option.bind_some]
    rw [e1, e2, cmpL]
    by_cases h : cmpT x[x.length - (i + 1)] y[y.length - (i + 1)] = 0
    · rw [if_pos h, if_pos h, w3]; exact hih
    · rw [if_neg h, if_neg h]
theorem Nm_count {ls : List T} (h : Nm ls) : ls.length ≤ 254 := by have := labels_le ls; have := h.2; omega
theorem compare_ref (a b : T) (k : Nat) (hk : 1001 ≤ k) : name_Compare.f k (mk a) (mk b) = some (cmpN a b) := by
  unfold name_Compare.f cmpN
  rw [split_ref a k (by omega), split_ref b k (by omega)]; simp only [Option.bind_some]
  obtain ⟨k, rfl⟩ : ∃ m, k = m + 1 := ⟨k - 1, by omega⟩
  cases ha : nm a with
  | none =>
    rw [spl_none ha, if_neg (by simp)]
    cases hb : nm b with
    | none => rw [spl_none hb, name_Compare.j0]; simp [cmpS_ref]
    | some y => rw [spl_some hb, name_Compare.j0]; simp
  | some x =>
    rw [spl_some ha, if_pos rfl, name_Compare.j0, if_neg (by simp), if_pos rfl]
    cases hb : nm b with
    | none => rw [spl_none hb]; simp
    | some y =>
      rw [spl_some hb, if_pos rfl]
      have hx := Nm_count (nm_some ha).1
      have hy := Nm_count (nm_some hb).1
      have := cmp_l0 x y (by omega) (by omega) (min x.length y.length) k 0 (by omega) (by omega) (by omega)
      simpa using this
/-! ### Under, Parent, Common -/
def sh (x y : List T) : Nat := (comm x y).length
theorem shared_l0 (x y : List T) (hx : x.length ≤ 300) (hy : y.length ≤ 300) (d : Nat) : ∀ (k i : Nat), min x.length y.length - i = d → i ≤ min x.length y.length → d < k →
    name_shared.l0 k (x.map mk) (y.map mk) (i : Int) = some ((i + (lcp (x.take (x.length - i)).reverse (y.take (y.length - i)).reverse).length : Nat) : Int) := by
  induction d with
  | zero =>
    intro k i hd hi hk
    obtain ⟨k, rfl⟩ : ∃ m, k = m + 1 := ⟨k - 1, by omega⟩
    have hm := mn_len x y
    rw [name_shared.l0, hm, if_neg (by omega)]
    have : lcp (x.take (x.length - i)).reverse (y.take (y.length - i)).reverse = [] := by
      by_cases h : x.length - i = 0
      · rw [h]; simp [lcp]
      · have h2 : y.length - i = 0 := by omega
        rw [h2]; simp only [List.take_zero, List.reverse_nil]
        cases (x.take (x.length - i)).reverse <;> simp [lcp]
    rw [this]; rfl
  | succ d ih =>
    intro k i hd hi hk
    obtain ⟨k, rfl⟩ : ∃ m, k = m + 1 := ⟨k - 1, by omega⟩
    have hx1 : x.length - (i + 1) < x.length := by omega
    have hy1 : y.length - (i + 1) < y.length := by omega
    have e1 : (x.take (x.length - i)).reverse = x[x.length - (i + 1)] :: (x.take (x.length - (i + 1))).reverse := by
      rw [show x.length - i = x.length - (i + 1) + 1 from by omega, List.take_succ_eq_append_getElem hx1, List.reverse_append, List.reverse_singleton, List.singleton_append]
    have e2 : (y.take (y.length - i)).reverse = y[y.length - (i + 1)] :: (y.take (y.length - (i + 1))).reverse := by
      rw [show y.length - i = y.length - (i + 1) + 1 from by omega, List.take_succ_eq_append_getElem hy1, List.reverse_append, List.reverse_singleton, List.singleton_append]
    have hix : i + 1 ≤ x.length := by omega
    have hiy : i + 1 ≤ y.length := by omega
    have him : i < min x.length y.length := by omega
    have hih := ih k (i + 1) (by omega) (by omega) (by omega)
    have hm := mn_len x y
    have w1 : wrap64 (wrap64 (((x.map mk).length : Int) - 1) - (i : Int)) = ((x.length - (i + 1) : Nat) : Int) := by rw [List.length_map, wrap_small (n := (x.length : Int) - 1) (by omega) (by omega), wrap_small (by omega) (by omega)]; omega
    have w2 : wrap64 (wrap64 (((y.map mk).length : Int) - 1) - (i : Int)) = ((y.length - (i + 1) : Nat) : Int) := by rw [List.length_map, wrap_small (n := (y.length : Int) - 1) (by omega) (by omega), wrap_small (by omega) (by omega)]; omega
    have w3 : wrap64 ((i : Int) + 1) = ((i + 1 : Nat) : Int) := wrap_succ (by omega)
    rw [name_shared.l0, hm, if_pos (Int.ofNat_lt.2 him), w1, w2, if_pos (Int.natCast_nonneg _), if_pos (by rw [List.length_map]; exact Int.ofNat_lt.2 hx1), if_pos (Int.natCast_nonneg _), if_pos (by rw [List.length_map]; exact Int.ofNat_lt.2 hy1), rdOf_map x _ hx1, rdOf_map y _ hy1, mk_list, mk_list, w3, e1, e2, lcp]
    by_cases h : x[x.length - (i + 1)] = y[y.length - (i + 1)]
    · rw [if_pos h, if_pos h, hih, List.length_cons]; clear hih w1 w2 w3 hm; congr 1; omega
    · rw [if_neg h, if_neg h]; rfl
theorem shared_ref (x y : List T) (hx : x.length ≤ 300) (hy : y.length ≤ 300) (k : Nat) (hk : 301 ≤ k) : name_shared.f k (x.map mk) (y.map mk) = some ((sh x y : Nat) : Int) := by
  have := shared_l0 x y hx hy (min x.length y.length) k 0 (by omega) (by omega) (by omega)
  unfold name_shared.f
  rw [show ((0 : Nat) : Int) = 0 from rfl] at this
  rw [this]; simp [sh, comm]
def under (n z : T) : Bool := match nm n, nm z with
  | some x, some y => decide (y <:+ x)
  | _, _ => false
theorem under_ref (n z : T) (k : Nat) (hk : 1000 ≤ k) : name_Under.f k (mk n) (mk z) = some (under n z) := by
  unfold name_Under.f under
  rw [split_ref n k hk, split_ref z k hk]; simp only [Option.bind_some]
  cases hn : nm n with
  | none => rw [spl_none hn]; simp
  | some x =>
    cases hz : nm z with
    | none => rw [spl_some hn, spl_none hz]; simp
    | some y =>
      have hx := Nm_count (nm_some hn).1
      have hy := Nm_count (nm_some hz).1
      rw [spl_some hn, spl_some hz]; simp only [if_true]
      rw [shared_ref x y (by omega) (by omega) k (by omega)]; simp only [Option.bind_some, List.length_map]
      congr 1
      rw [Bool.eq_iff_iff, beq_iff_eq, decide_eq_true_iff, ← comm_eq_right]
      constructor
      · intro h; exact (comm_right x y).eq_of_length (by unfold sh at h; omega)
      · intro h; unfold sh; rw [h]
def parent (n : T) : T × Bool := match nm n with
  | some (_ :: xs) => (enc xs, true)
  | _ => ([], false)
theorem parent_ref (n : T) (k : Nat) (hk : 1000 ≤ k) : name_Parent.f k (mk n) = some (mk (parent n).1, (parent n).2) := by
  unfold name_Parent.f parent
  rw [split_ref n k hk]; simp only [Option.bind_some]
  cases hn : nm n with
  | none => rw [spl_none hn]; simp; rfl
  | some ls =>
    rw [spl_some hn]; simp only [if_true]
    cases ls with
    | nil => simp; rfl
    | cons x xs =>
      have hq := Nm_tail (nm_some hn).1
      rw [if_neg (by simp; omega), if_pos (by simp; omega), List.map_cons, List.drop_one, List.tail_cons, joined_ref xs (by have := hq.2; omega)]; rfl
theorem common_l0 (k : Nat) (hk : 1000 ≤ k) (more : List T) (d : Nat) : ∀ (q i : Nat) (x : List T), Nm x → more.length - i = d → i ≤ more.length → more.length ≤ 1000 → d + k < q →
    name_Common.l0 q (x.map mk) (more.map mk) (more.length : Int) (i : Int) = some (mk ((((more.drop i).foldl (fun (o : Option (List T)) m => o.bind fun x => (nm m).map fun y => comm x y) (some x)).map enc).getD [])) := by
  induction d with
  | zero =>
    intro q i x hx hd hi hm hq
    obtain ⟨q, rfl⟩ : ∃ m, q = m + 1 := ⟨q - 1, by omega⟩
    rw [name_Common.l0, if_neg (by omega), List.drop_eq_nil_of_le (by omega), joined_ref x (by have := hx.2; omega)]; rfl
  | succ d ih =>
    intro q i x hx hd hi hm hq
    obtain ⟨q, rfl⟩ : ∃ m, q = m + 1 := ⟨q - 1, by omega⟩
    have hlt : i < more.length := by omega
    have w3 : wrap64 ((i : Int) + 1) = ((i + 1 : Nat) : Int) := by unfold wrap64; omega
    rw [name_Common.l0, if_pos (by omega), if_pos (by omega), if_pos (by rw [List.length_map]; omega), rdOf_map more i hlt, split_ref _ q (by omega), w3, List.drop_eq_getElem_cons hlt, List.foldl_cons]
    simp only [Option.bind_some]
    cases hn : nm more[i] with
    | none =>
      rw [spl_none hn, if_neg (by simp)]
      have : ∀ l : List T, l.foldl (fun (o : Option (List T)) m => o.bind fun x => (nm m).map fun y => comm x y) none = none := by
        intro l; induction l with
        | nil => rfl
        | cons y l ih => exact ih
      rw [Option.map_none, this]; rfl
    | some y =>
      have h1 := Nm_count hx
      have h2 := Nm_count (nm_some hn).1
      have h3 := comm_left x y
      have h4 : sh x y ≤ x.length := h3.length_le
      have w : wrap64 (((x.map mk).length : Int) - ((sh x y : Nat) : Int)) = ((x.length - sh x y : Nat) : Int) := by rw [List.length_map]; unfold wrap64; omega
      rw [spl_some hn]; simp only [if_true]
      rw [shared_ref x y (by omega) (by omega) q (by omega)]; simp only [Option.bind_some]
      rw [w, if_pos (by omega), if_pos (by rw [List.length_map]; omega)]
      have e : x.drop (x.length - sh x y) = comm x y := by
        unfold sh; exact (List.suffix_iff_eq_drop.1 h3).symm
      rw [Int.toNat_natCast, ← List.map_drop, e, ih q (i + 1) (comm x y) (Nm_suffix hx h3) (by omega) (by omega) hm (by omega)]
      rfl
def common (n : T) (more : List T) : T := (((more.foldl (fun (o : Option (List T)) m => o.bind fun x => (nm m).map fun y => comm x y) (nm n))).map enc).getD []
theorem common_ref (n : T) (more : List T) (hm : more.length ≤ 1000) (k : Nat) (hk : 2001 < k) : name_Common.f k (mk n) (more.map mk) = some (mk (common n more)) := by
  unfold name_Common.f common
  rw [split_ref n k (by omega)]; simp only [Option.bind_some]
  cases hn : nm n with
  | none =>
    rw [spl_none hn, if_neg (by simp)]
    have : ∀ l : List T, l.foldl (fun (o : Option (List T)) m => o.bind fun x => (nm m).map fun y => comm x y) none = none := by
      intro l; induction l with
      | nil => rfl
      | cons y l ih => exact ih
    rw [this]; rfl
  | some x =>
    rw [spl_some hn]; simp only [if_true]
    have := common_l0 1000 (by omega) more more.length k 0 x (nm_some hn).1 (by omega) (by omega) hm (by omega)
    rw [List.drop_zero] at this
    rw [List.length_map]; exact this
end Go.Proofs.Ytoocmjdnboldhaa.Nl
