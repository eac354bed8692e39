/- What the printed functions Under, Parent and Common of the package name come to, in the words of lists of labels. -/
import Derived.Test.YtoocmjdnboldhaaNmBNameOrders
namespace Go.Proofs.Ytoocmjdnboldhaa.Nl
open Go.RowKit Go.Proofs.Ytoocmjdnboldhaa.PNameOrders Go.Proofs.YtoocmjdnboldhaaW.PrintWords Go.Proofs.YtoocmjdnboldhaaW.PrintLast Go.Proofs.YtoocmjdnboldhaaW.PrintMore
set_option linter.unusedVariables false
set_option linter.unusedSimpArgs false
/-! ### Under, Parent, Common -/
def sh (x y : List T) : Nat := (comm x y).length
theorem shared_l0 (x y : List T) (hx : x.length ≤ 300) (hy : y.length ≤ 300) (d : Nat) : ∀ (k i : Nat), min x.length y.length - i = d → i ≤ min x.length y.length → d < k →
    name_shared.l0 k (x.map mk) (y.map mk) (i : Int) = some ((i + (lcp (x.take (x.length - i)).reverse (y.take (y.length - i)).reverse).length : Nat) : Int) := by
  induction d with
  | zero =>
    intro k i hd hi hk
    obtain ⟨k, rfl⟩ : ∃ m, k = m + 1 := ⟨k - 1, by omega⟩
    have hm := mn_len x y
    rw [name_shared.l0, hm, if_neg (by omega)]
    have : lcp (x.take (x.length - i)).reverse (y.take (y.length - i)).reverse = [] := by
      by_cases h : x.length - i = 0
      · rw [h]; simp [lcp]
      · have h2 : y.length - i = 0 := by omega
        rw [h2]; simp only [List.take_zero, List.reverse_nil]
        cases (x.take (x.length - i)).reverse <;> simp [lcp]
    rw [this]; rfl
  | succ d ih =>
    intro k i hd hi hk
    obtain ⟨k, rfl⟩ : ∃ m, k = m + 1 := ⟨k - 1, by omega⟩
    have hx1 : x.length - (i + 1) < x.length := by omega
    have hy1 : y.length - (i + 1) < y.length := by omega
    have e1 : (x.take (x.length - i)).reverse = x[x.length - (i + 1)] :: (x.take (x.length - (i + 1))).reverse := by
      rw [show x.length - i = x.length - (i + 1) + 1 from by omega, List.take_succ_eq_append_getElem hx1, List.reverse_append, List.reverse_singleton, List.singleton_append]
    have e2 : (y.take (y.length - i)).reverse = y[y.length - (i + 1)] :: (y.take (y.length - (i + 1))).reverse := by
      rw [show y.length - i = y.length - (i + 1) + 1 from by omega, List.take_succ_eq_append_getElem hy1, List.reverse_append, List.reverse_singleton, List.singleton_append]
    have hix : i + 1 ≤ x.length := by omega
    have hiy : i + 1 ≤ y.length := by omega
    have him : i < min x.length y.length := by omega
    have hih := ih k (i + 1) (by omega) (by omega) (by omega)
    have hm := mn_len x y
    have w1 : wrap64 (wrap64 (((x.map mk).length : Int) - 1) - (i : Int)) = ((x.length - (i + 1) : Nat) : Int) := by rw [List.length_map, wrap_small (n := (x.length : Int) - 1) (by omega) (by omega), wrap_small (by omega) (by omega)]; omega
    have w2 : wrap64 (wrap64 (((y.map mk).length : Int) - 1) - (i : Int)) = ((y.length - (i + 1) : Nat) : Int) := by rw [List.length_map, wrap_small (n := (y.length : Int) - 1) (by omega) (by omega), wrap_small (by omega) (by omega)]; omega
    have w3 : wrap64 ((i : Int) + 1) = ((i + 1 : Nat) : Int) := wrap_succ (by omega)
    rw [name_shared.l0, hm, if_pos (Int.ofNat_lt.2 him), w1, w2, if_pos (Int.natCast_nonneg _), if_pos (by rw [List.length_map]; exact Int.ofNat_lt.2 hx1), if_pos (Int.natCast_nonneg _), if_pos (by rw [List.length_map]; exact Int.ofNat_lt.2 hy1), rdOf_map x _ hx1, rdOf_map y _ hy1, mk_list, mk_list, w3, e1, e2, lcp]
    by_cases h : x[x.length - (i + 1)] = y[y.length - (i + 1)]
    · rw [if_pos h, if_pos h, hih, List.length_cons]; clear hih w1 w2 w3 hm; congr 1; omega
    · rw [if_neg h, if_neg h]; rfl
theorem shared_ref (x y : List T) (hx : x.length ≤ 300) (hy : y.length ≤ 300) (k : Nat) (hk : 301 ≤ k) : name_shared.f k (x.map mk) (y.map mk) = some ((sh x y : Nat) : Int) := by
  have := shared_l0 x y hx hy (min x.length y.length) k 0 (by omega) (by omega) (by omega)
  unfold name_shared.f
  rw [show ((0 : Nat) : Int) = 0 from rfl] at this
  rw [this]; simp [sh, comm]
def under (n z : T) : Bool := match nm n, nm z with
  | some x, some y => decide (y <:+ x)
  | _, _ => false
theorem under_ref (n z : T) (k : Nat) (hk : 1000 ≤ k) : name_Under.f k (mk n) (mk z) = some (under n z) := by
  unfold name_Under.f under
  rw [split_ref n k hk, split_ref z k hk]; simp only [Option.bind_some]
  cases hn : nm n with
  | none => rw [spl_none hn]; simp
  | some x =>
    cases hz : nm z with
    | none => rw [spl_some hn, spl_none hz]; simp
    | some y =>
      have hx := Nm_count (nm_some hn).1
      have hy := Nm_count (nm_some hz).1
      rw [spl_some hn, spl_some hz]; simp only [if_true]
      rw [shared_ref x y (by omega) (by omega) k (by omega)]; simp only [Option.bind_some, List.length_map]
      congr 1
      rw [Bool.eq_iff_iff, beq_iff_eq, decide_eq_true_iff, ← comm_eq_right]
      constructor
      · intro h; exact (comm_right x y).eq_of_length (by unfold sh at h; omega)
      · intro h; unfold sh; rw [h]
def parent (n : T) : T × Bool := match nm n with
  | some (_ :: xs) => (enc xs, true)
  | _ => ([], false)
theorem common_l0 (k : Nat) (hk : 1000 ≤ k) (more : List T) (d : Nat) : ∀ (q i : Nat) (x : List T), Nm x → more.length - i = d → i ≤ more.length → more.length ≤ 1000 → d + k < q →
    name_Common.l0 q (x.map mk) (more.map mk) (more.length : Int) (i : Int) = some (mk ((((more.drop i).foldl (fun (o : Option (List T)) m => o.bind fun x => (nm m).map fun y => comm x y) (some x)).map enc).getD [])) := by
  induction d with
  | zero =>
    intro q i x hx hd hi hm hq
    obtain ⟨q, rfl⟩ : ∃ m, q = m + 1 := ⟨q - 1, by omega⟩
    rw [name_Common.l0, if_neg (by omega), List.drop_eq_nil_of_le (by omega), joined_ref x (by have := hx.2; omega)]; rfl
  | succ d ih =>
    intro q i x hx hd hi hm hq
    obtain ⟨q, rfl⟩ : ∃ m, q = m + 1 := ⟨q - 1, by omega⟩
    have hlt : i < more.length := by omega
    have w3 : wrap64 ((i : Int) + 1) = ((i + 1 : Nat) : Int) := by unfold wrap64; omega
    rw [name_Common.l0, if_pos (by omega), if_pos (by omega), if_pos (by rw [List.length_map]; omega), rdOf_map more i hlt, split_ref _ q (by omega), w3, List.drop_eq_getElem_cons hlt, List.foldl_cons]
    simp only [Option.bind_some]
    cases hn : nm more[i] with
    | none =>
      rw [spl_none hn, if_neg (by simp)]
      have : ∀ l : List T, l.foldl (fun (o : Option (List T)) m => o.bind fun x => (nm m).map fun y => comm x y) none = none := by
        intro l; induction l with
        | nil => rfl
        | cons y l ih => exact ih
      rw [Option.map_none, this]; rfl
    | some y =>
      have h1 := Nm_count hx
      have h2 := Nm_count (nm_some hn).1
      have h3 := comm_left x y
      have h4 : sh x y ≤ x.length := h3.length_le
      have w : wrap64 (((x.map mk).length : Int) - ((sh x y : Nat) : Int)) = ((x.length - sh x y : Nat) : Int) := by rw [List.length_map]; unfold wrap64; omega
      rw [spl_some hn]; simp only [if_true]
      rw [shared_ref x y (by omega) (by omega) q (by omega)]; simp only [Option.bind_some]
      rw [w, if_pos (by omega), if_pos (by rw [List.length_map]; omega)]
      have e : x.drop (x.length - sh x y) = comm x y := by
        unfold sh; exact (List.suffix_iff_eq_drop.1 h3).symm
      rw [Int.toNat_natCast, ← List.map_drop, e, ih q (i + 1) (comm x y) (Nm_suffix hx h3) (by omega) (by omega) hm (by omega)]
      rfl
def common (n : T) (more : List T) : T := (((more.foldl (fun (o : Option (List T)) m => o.bind fun x => (nm m).map fun y => comm x y) (nm n))).map enc).getD []
theorem common_ref (n : T) (more : List T) (hm : more.length ≤ 1000) (k : Nat) (hk : 2001 < k) : name_Common.f k (mk n) (more.map mk) = some (mk (common n more)) := by
  unfold name_Common.f common
  rw [split_ref n k (by omega)]; simp only [Option.bind_some]
  cases hn : nm n with
  | none =>
    rw [spl_none hn, if_neg (by simp)]
    have : ∀ l : List T, l.foldl (fun (o : Option (List T)) m => o.bind fun x => (nm m).map fun y => comm x y) none = none := by
      intro l; induction l with
      | nil => rfl
      | cons y l ih => exact ih
    rw [this]; rfl
  | some x =>
    rw [spl_some hn]; simp only [if_true]
    have := common_l0 1000 (by omega) more more.length k 0 x (nm_some hn).1 (by omega) (by omega) hm (by omega)
    rw [List.drop_zero] at this
    rw [List.length_map]; exact this
end Go.Proofs.Ytoocmjdnboldhaa.Nl
