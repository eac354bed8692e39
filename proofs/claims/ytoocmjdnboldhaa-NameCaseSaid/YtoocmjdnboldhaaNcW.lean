/- NameCase: great letters and small ones are one name, so are a text with its last point and without, and one of digits alone; no conditions. -/
import Derived.Test.YtoocmjdnboldhaaNlQ
import Derived.Test.YtoocmjdnboldhaaNmPNameCase
import Derived.Test.YtoocmjdnboldhaaPNameCasex3
import Derived.Deep.DeepCutAuto
import Derived.Outline
import Derived.Handy
namespace Go.Proofs.Ytoocmjdnboldhaa.Nl
open Go.RowKit Go.Proofs.Ytoocmjdnboldhaa.PNameCase Go.Proofs.YtoocmjdnboldhaaW.PrintWords Go.Proofs.YtoocmjdnboldhaaW.PrintLast Go.Proofs.YtoocmjdnboldhaaW.PrintMore
set_option linter.unusedVariables false
set_option linter.unusedSimpArgs false
def upCells (l : List UInt8) (k : Nat) : List Value := (l.take k).map (fun c => Value.int .u8 ((upB c).toNat)) ++ (l.drop k).map (fun c => Value.int .u8 c.toNat)
theorem upCells_len (l : List UInt8) (k : Nat) : (upCells l k).length = l.length := by unfold upCells; simp; omega
theorem upCells_at (l : List UInt8) (k : Nat) (h : k < l.length) : (upCells l k)[k]? = some (.int .u8 l[k].toNat) := by
  unfold upCells
  rw [List.getElem?_append_right (by simp; omega)]
  simp [Nat.min_eq_left (Nat.le_of_lt h), h]
theorem upCells_set (l : List UInt8) (k : Nat) (h : k < l.length) : (upCells l k).set k (.int .u8 (upB l[k]).toNat) = upCells l (k + 1) := by
  unfold upCells
  rw [List.take_succ_eq_append_getElem h, List.drop_eq_getElem_cons h, List.map_cons, List.set_append, if_neg (by simp; omega)]
  rw [show k - (List.map (fun c => Value.int .u8 ((upB c).toNat : Int)) (l.take k)).length = 0 from by simp; omega, List.set_cons_zero, List.map_append, List.map_cons, List.map_nil, List.append_assoc]; rfl
theorem upCells_keep (l : List UInt8) (k : Nat) (h : k < l.length) (he : upB l[k] = l[k]) : upCells l k = upCells l (k + 1) := by
  rw [← upCells_set l k h, he]
  apply List.ext_getElem?
  intro j
  by_cases hj : k = j
  · subst hj; rw [upCells_at l k h, List.getElem?_set_self (by rw [upCells_len]; exact h)]
  · rw [List.getElem?_set_ne hj]
theorem upCells_end (l : List UInt8) (j : Nat) (h : j < (l.map upB).length) : (upCells l l.length)[j]? = some (.int .u8 ((l.map upB)[j].toNat : Int)) := by
  have h' : j < l.length := by simpa using h
  unfold upCells; simp [h']
def UpAt (g : Nat) (l : List UInt8) (sp : List Value) (k : Nat) (w : World) : Prop := w.heap[g]? = some (.cells (upCells l k ++ sp).toArray 5 ((upCells l k ++ sp).toArray.size, (upCells l k ++ sp).toArray.size + 1))
theorem UpAt.cell {g : Nat} {l : List UInt8} {sp : List Value} {k : Nat} {w : World} (h : UpAt g l sp k w) (hk : k < l.length) : w.cell? ⟨g, k, none⟩ = some (.int .u8 l[k].toNat) := by
  rw [cell_of_row w g k _ _ _ h]; simp only [List.getElem?_toArray]
  rw [List.getElem?_append_left (by rw [upCells_len]; exact hk)]; exact upCells_at l k hk
theorem UpAt.free {g : Nat} {l : List UInt8} {sp : List Value} {k : Nat} {w : World} (h : UpAt g l sp k w) (hk : k < l.length) : w.frozen? ⟨g, k, none⟩ = false :=
  low_blk_free h k (by simp [upCells_len]; omega)
theorem UpAt.set {g : Nat} {l : List UInt8} {sp : List Value} {k : Nat} {w : World} (h : UpAt g l sp k w) (hk : k < l.length) (x : Int) (hx : x = ((upB l[k]).toNat : Int)) : UpAt g l sp (k + 1) (w.setCell ⟨g, k, none⟩ (.int .u8 x)) := by
  unfold UpAt
  rw [low_blk_set h k, hx]
  have : ((upCells l k ++ sp).toArray.setIfInBounds k (.int .u8 ((upB l[k]).toNat : Int))) = (upCells l (k + 1) ++ sp).toArray := by
    rw [← upCells_set l k hk]
    simp [List.set_append_left _ _ (by rw [upCells_len]; exact hk : k < (upCells l k).length)]
  rw [this]
  have e : (upCells l k ++ sp).toArray.size = (upCells l (k + 1) ++ sp).toArray.size := by simp [upCells_len]
  rw [e]
theorem UpAt.keep {g : Nat} {l : List UInt8} {sp : List Value} {k : Nat} {w : World} (h : UpAt g l sp k w) (hk : k < l.length) (he : upB l[k] = l[k]) : UpAt g l sp (k + 1) w := by
  unfold UpAt at h ⊢; rw [← upCells_keep l k hk he]; exact h
theorem UpAt.low {g B : Nat} {l : List UInt8} {sp : List Value} {k : Nat} {w w' : World} (h : UpAt g l sp k w) (hb : Below B w w') (hg : g < B) : UpAt g l sp k w' := by
  unfold UpAt at h ⊢; rw [hb.block g hg]; exact h
theorem UpAt.lt {g : Nat} {l : List UInt8} {sp : List Value} {k : Nat} {w : World} (h : UpAt g l sp k w) : g < w.heap.size := by
  unfold UpAt at h; exact (Array.getElem?_eq_some_iff.1 h).1
theorem up_yes {c : UInt8} (h : 97 ≤ c.toNat ∧ c.toNat ≤ 122) : ((upB c).toNat : Int) = (c.toNat : Int) - 32 := by rw [up_nat, if_pos h]; omega
theorem up_no {c : UInt8} (h : ¬ (97 ≤ c.toNat ∧ c.toNat ≤ 122)) : upB c = c := by unfold upB; rw [if_neg h]
def dg3 (c : UInt8) : T := [UInt8.ofNat (48 + c.toNat / 100), UInt8.ofNat (48 + c.toNat / 10 % 10), UInt8.ofNat (48 + c.toNat % 10)]
theorem dg3_cells (c : UInt8) (w : World) : ∀ j (hj : j < (dg3 c).length), (w.alloc (Obj.cells #[Value.int .u8 (48 + (c.toNat : Int) / 100), Value.int .u8 (48 + (c.toNat : Int) / 10 % 10), Value.int .u8 (48 + (c.toNat : Int) % 10)] 5)).cell? ((⟨w.heap.size, 0, none⟩ : Addr).add j) = some (.int .u8 ((dg3 c)[j].toNat : Int)) := by
  have hc := c.toNat_lt
  have b1 := byte_ofNat (48 + c.toNat / 100) (by omega)
  have b2 := byte_ofNat (48 + c.toNat / 10 % 10) (by omega)
  have b3 := byte_ofNat (48 + c.toNat % 10) (by omega)
  intro j hj
  have hj3 : j < 3 := hj
  rw [add_plain, World.cell?_alloc_new]
  match j, hj3 with
  | 0, _ => show some (Value.int .u8 (48 + (c.toNat : Int) / 100)) = some (Value.int .u8 ((UInt8.ofNat (48 + c.toNat / 100)).toNat : Int)); rw [b1]; rfl
  | 1, _ => show some (Value.int .u8 (48 + (c.toNat : Int) / 10 % 10)) = some (Value.int .u8 ((UInt8.ofNat (48 + c.toNat / 10 % 10)).toNat : Int)); rw [b2]; rfl
  | 2, _ => show some (Value.int .u8 (48 + (c.toNat : Int) % 10)) = some (Value.int .u8 ((UInt8.ofNat (48 + c.toNat % 10)).toNat : Int)); rw [b3]; rfl
theorem mk_app (a b : T) : mk a ++ mk b = mk (a ++ b) := by apply ByteArray.ext; simp [mk]
theorem wrap_pred {a : Nat} (h : 2 ≤ a) (h' : a ≤ 1000000) : wrap64 ((a : Int) - 1) = ((a - 1 : Nat) : Int) := by rw [wrap_small (by omega) (by omega)]; omega
theorem c_may (a : T) (w : World) : Calls Try.prog 35 #[.string (mk a)] w fun e w' => e = .returned (.bool (nm a).isSome) ∧ Below w.heap.size w w' :=
  name_May.calls 1000 (mk a) _ w (may_ref a 1000 (by omega))
theorem c_first (w : World) : Calls Try.prog 24 #[] w fun e w' => e = .returned (.bool true) ∧ Below w.heap.size w w' :=
  rhzlaw2_first.calls 300 true w first_true
theorem c_print {n : T} {ls : List T} (h : nm n = some ls) (hl : ls ≠ []) (w : World) : Calls Try.prog 37 #[.string (mk n)] w fun e w' => e = .returned (.tuple #[.string (mk (prS ls)), .int .i64 0]) ∧ Below w.heap.size w w' := by
  have e := print_ref n 1000 (by omega)
  unfold printS at e; rw [h] at e
  simp only at e
  rw [if_neg (by intro h0; exact hl (List.length_eq_zero_iff.1 h0))] at e
  exact name_Print.calls 1000 (mk n) _ _ w e
theorem c_parse {n t : T} (hl : t.length ≤ 10000) (h : parseS t = (n, 0)) (w : World) : Calls Try.prog 38 #[.string (mk t)] w fun e w' => e = .returned (.tuple #[.string (mk n), .int .i64 0]) ∧ Below w.heap.size w w' := by
  have e := parse_ref t 20000 hl (by omega)
  rw [h] at e
  exact name_Parse.calls 20000 (mk t) _ _ w e
theorem c_labels {n : T} {ls : List T} (h : nm n = some ls) (w : World) : Calls Try.prog 29 #[.string (mk n)] w fun e w' => ∃ v0_ : Value, e = .returned (v0_) ∧ Kd.R Kd.string 9 w' w.heap.size (fun _ => True) v0_ (ls.map mk) ∧ Below w.heap.size w w' := by
  have e := labels_ref n 1000 (by omega)
  rw [spl_some h] at e
  exact name_Labels.calls 1000 (mk n) _ w e
set_option maxHeartbeats 8000000 in
set_option maxRecDepth 100000 in
theorem case_skip (n : T) (w : World) (h : n.length > 2000 ∨ nm n = none ∨ n = [0]) : Calls Try.prog 12 #[.string (mk n)] w fun e w' => e = .returned (.bool true) ∧ Below w.heap.size w w' := by
  have HB := Aside0.mk (Below.refl w.heap.size w)
  have hs : decide (2000 < ((mk n).size : Int)) = decide (2000 < n.length) := by rw [mk_size, decide_eq_decide]; omega
  by_cases h1 : 2000 < n.length
  · rw [decide_eq_true h1] at hs; clear h h1
    go_enter Try.func12, Try.ntmps12
    go_wp2_with (go_at_call 24; refine (c_first _).mono ?_; rintro e w1 ⟨rfl, hb⟩; have n0_ := Aside0.mk (below_step (by repeat (first | (with_reducible first | exact HB.out | apply below_alloc | apply pw_below_drewN | apply below_drew1) | exact HB.out)) hb); clear HB; have HB := n0_; clear n0_; clear hb)
    go_ret
    exact ⟨rfl, (by repeat (first | (with_reducible first | exact HB.out | apply below_alloc | apply pw_below_drewN | apply below_drew1) | exact HB.out))⟩
  · rw [decide_eq_false h1] at hs
    by_cases h2 : nm n = none
    · have h3 : (nm n).isSome = false := by rw [h2]; rfl
      clear h h1 h2
      go_enter Try.func12, Try.ntmps12
      go_wp2_with (first | (go_at_call 24; refine (c_first _).mono ?_; rintro e w1 ⟨rfl, hb⟩; have n0_ := Aside0.mk (below_step (by repeat (first | (with_reducible first | exact HB.out | apply below_alloc | apply pw_below_drewN | apply below_drew1) | exact HB.out)) hb); clear HB; have HB := n0_; clear n0_; clear hb) | (go_at_call 35; refine (c_may _ _).mono ?_; rintro e w1 ⟨rfl, hb⟩; have n0_ := Aside0.mk (below_step (by repeat (first | (with_reducible first | exact HB.out | apply below_alloc | apply pw_below_drewN | apply below_drew1) | exact HB.out)) hb); clear HB; have HB := n0_; clear n0_; clear hb))
      go_ret
      exact ⟨rfl, (by repeat (first | (with_reducible first | exact HB.out | apply below_alloc | apply pw_below_drewN | apply below_drew1) | exact HB.out))⟩
    · have h3 : (nm n).isSome = true := by cases hq : nm n with
        | none => exact absurd hq h2
        | some x => rfl
      have h4 : ((mk n).toList == [0]) = true := by
        rcases h with h | h | h
        · exact absurd h h1
        · exact absurd h h2
        · rw [mk_list, h]; rfl
      clear h h1 h2
      go_enter Try.func12, Try.ntmps12
      go_wp2_with (first | (go_at_call 24; refine (c_first _).mono ?_; rintro e w1 ⟨rfl, hb⟩; have n0_ := Aside0.mk (below_step (by repeat (first | (with_reducible first | exact HB.out | apply below_alloc | apply pw_below_drewN | apply below_drew1) | exact HB.out)) hb); clear HB; have HB := n0_; clear n0_; clear hb) | (go_at_call 35; refine (c_may _ _).mono ?_; rintro e w1 ⟨rfl, hb⟩; have n0_ := Aside0.mk (below_step (by repeat (first | (with_reducible first | exact HB.out | apply below_alloc | apply pw_below_drewN | apply below_drew1) | exact HB.out)) hb); clear HB; have HB := n0_; clear n0_; clear hb))
      go_ret
      exact ⟨rfl, (by repeat (first | (with_reducible first | exact HB.out | apply below_alloc | apply pw_below_drewN | apply below_drew1) | exact HB.out))⟩
set_option maxHeartbeats 8000000 in
set_option maxRecDepth 100000 in
theorem case_walk (n : T) (ls : List T) (w : World) (h1 : n.length ≤ 2000) (h2 : nm n = some ls) (h3 : ls ≠ []) : Calls Try.prog 12 #[.string (mk n)] w fun e w' => e = .returned (.bool true) ∧ Below w.heap.size w w' := by
  have HB := Aside0.mk (Below.refl w.heap.size w)
  have hs : decide (2000 < ((mk n).size : Int)) = false := by rw [mk_size, decide_eq_false_iff_not]; omega
  have hm : (nm n).isSome = true := by rw [h2]; rfl
  have hr : ((mk n).toList == [0]) = false := by
    rw [mk_list, beq_eq_false_iff_ne]; rintro rfl; rw [nm_root] at h2; injection h2 with h2; exact h3 h2.symm
  obtain ⟨t, ht⟩ : ∃ t, t = prS ls := ⟨_, rfl⟩
  obtain ⟨p1, p2, p3⟩ := short_parse h2 h3
  have hprint := c_print h2 h3
  rw [← ht] at p1 p2 p3 hprint
  have h4 : decide (((mk t).size : Int) < 2) = false := by rw [mk_size, decide_eq_false_iff_not]; omega
  have hwi : wrap64 (((mk t).size : Int) - 1) = ((t.length - 1 : Nat) : Int) := by rw [mk_size]; exact wrap_pred p1 (by have := prS_len ls; have := (nm_some h2).1.2; rw [ht]; omega)
  have hi0 : 0 ≤ wrap64 (((mk t).size : Int) - 1) ∧ wrap64 (((mk t).size : Int) - 1) < ((mk t).size : Int) := by rw [hwi, mk_size]; omega
  have hi1 : (wrap64 (((mk t).size : Int) - 1)).toNat < (mk t).size := by rw [hwi, mk_size]; omega
  have hi2 : ((((mk t)[(wrap64 (((mk t).size : Int) - 1)).toNat]'hi1).toNat : Int) != 46) = false := by
    have : ∀ (i : Nat) (h : i < (mk t).size), i = t.length - 1 → ((((mk t)[i]'h).toNat : Int) != 46) = false := by
      rintro i h rfl
      have h' : t.length - 1 < t.length := by omega
      have e : (mk t)[t.length - 1]'h = t[t.length - 1]'h' := rfl
      rw [List.getElem?_eq_getElem h'] at p2
      rw [e, Option.some.inj p2]; rfl
    exact this _ hi1 (by rw [hwi]; rfl)
  clear hwi p2
  have hl : t.length ≤ 1100 := by have := prS_len ls; have := (nm_some h2).1.2; rw [ht]; omega
  have H2 := Lib.hid h2
  have H3 := Lib.hid h3
  have HT := Lib.hid ht
  have HP := Lib.hid hprint
  have P3 := Lib.hid p3
  clear h1 h2 h3 ht hprint p3
  go_enter Try.func12, Try.ntmps12
  go_upto_region 8 with (first | (go_at_call 24; refine (c_first _).mono ?_; rintro e w1 ⟨rfl, hb⟩; have n0_ := Aside0.mk (below_step (by repeat (first | (with_reducible first | exact HB.out | apply below_alloc | apply pw_below_drewN | apply below_drew1) | exact HB.out)) hb); clear HB; have HB := n0_; clear n0_; clear hb) | (go_at_call 35; refine (c_may _ _).mono ?_; rintro e w1 ⟨rfl, hb⟩; have n0_ := Aside0.mk (below_step (by repeat (first | (with_reducible first | exact HB.out | apply below_alloc | apply pw_below_drewN | apply below_drew1) | exact HB.out)) hb); clear HB; have HB := n0_; clear n0_; clear hb) | (go_at_call 37; refine (HP.out _).mono ?_; rintro e w1 ⟨rfl, hb⟩; have n0_ := Aside0.mk (below_step (by repeat (first | (with_reducible first | exact HB.out | apply below_alloc | apply pw_below_drewN | apply below_drew1) | exact HB.out)) hb); clear HB; have HB := n0_; clear n0_; clear hb))
  have hconv := run_bytes_of_string (P := Try.prog) w1 9 54 5 (mk t) Try.underlying9 Try.underlying54 Try.underlying5
  obtain ⟨cap, hcap⟩ : ∃ cap, cap = grownCap w1 (mk t).size 0 5 := ⟨_, rfl⟩
  rw [← hcap] at hconv
  have HCAP := Lib.hid hcap
  have hrow : bytesRow (mk t) cap = (upCells t 0 ++ (Array.replicate (cap - (mk t).size) (Value.int .u8 0)).toList).toArray := by
    unfold bytesRow upCells; simp [mk]
  have HROW := Lib.hid hrow
  clear hcap hrow hi2 hs hm hr h4
  have HW1 := Lib.hid HB.out.size
  go_wp2_with (go_at_call 29; refine (c_labels H2.out _).mono ?_; rintro e w2 ⟨v, rfl, ho, hb⟩; obtain ⟨Ao, co, rfl⟩ := Kd.R_slice ho; have HR : Aside0 (∃ B, Kd.R Kd.string 9 w2 B (fun j => w1.heap.size < j) (.slice Ao (ls.map mk).length co) (ls.map mk)) := ⟨⟨_, Kd.R_mono (Kd.R_bound ho) (fun j hj => Nat.lt_of_lt_of_le (by simp) hj.2.1)⟩⟩; clear ho; have UP : Aside0 (UpAt w1.heap.size t (Array.replicate (cap - (mk t).size) (Value.int .u8 0)).toList 0 w2) := ⟨UpAt.low (by unfold UpAt; rw [← HROW.out]; exact blk_drew (blk_new w1 _)) hb (by simp)⟩; have n0_ := Aside0.mk (below_step (by repeat (first | (with_reducible first | exact HB.out | apply below_alloc | apply pw_below_drewN | apply below_drew1) | exact HB.out)) hb); clear HB; have HB := n0_; clear n0_; clear hb)
  go_loopw [8] (fun i wr => ∃ k : Nat, k ≤ t.length ∧ i = .int .i64 k ∧ UpAt w1.heap.size t (Array.replicate (cap - (mk t).size) (Value.int .u8 0)).toList k wr ∧ (∃ B, Kd.R Kd.string 9 wr B (fun j => w1.heap.size < j) (.slice Ao (ls.map mk).length co) (ls.map mk)) ∧ Below w.heap.size w wr) (fun i _ => t.length - (intOf i).toNat)
  case atStart => exact ⟨0, Nat.zero_le _, rfl, UP.out, HR.out, HB.out⟩
  case round =>
    clear HB UP HR
    obtain ⟨k, hk, rfl, hat, hR, hbel⟩ := hrel
    have hsz : ((mk t).size : Int) = t.length := by rw [mk_size]
    by_cases hlt : k < t.length
    · have hc := hat.cell hlt
      have hf := hat.free hlt
      obtain ⟨c, hcc⟩ : ∃ c, c = t[k] := ⟨_, rfl⟩
      have hbd : c.toNat < 256 := c.toNat_lt
      have hmove : ∀ u, ∃ B, Kd.R Kd.string 9 (wr.setCell ⟨w1.heap.size, k, none⟩ u) B (fun j => w1.heap.size < j) (.slice Ao (ls.map mk).length co) (ls.map mk) := by
        intro u; obtain ⟨B, hB⟩ := hR
        exact ⟨B, Kd.R_move hB (fun j hj => Below.heap_setCell wr _ u j (by show j ≠ w1.heap.size; omega))⟩
      have HM := Lib.hid hmove
      clear hmove
      by_cases h97 : 97 ≤ c.toNat ∧ c.toNat ≤ 122
      · have hset := fun x hx => UpAt.set hat hlt x hx
        have hy := up_yes h97
        rw [← hcc] at hc hset
        have HSET := Lib.hid hset
        have HY := Lib.hid hy
        clear hset hy hcc
        have h1 : (97 : Int) ≤ (c.toNat : Int) := by omega
        have h2 : (c.toNat : Int) ≤ 122 := by omega
        go_wp2
        go_roundw
        case rel => exact ⟨k + 1, by omega, by go_num, HSET.out _ (by rw [HY.out]), HM.out _, hbel.setCell HW1.out _⟩
        case measure => simp [intOf]; omega
      · have hkeep := UpAt.keep hat hlt (by rw [← hcc]; exact up_no h97)
        have HK := Lib.hid hkeep
        rw [← hcc] at hc
        clear hkeep hcc HM
        by_cases h1 : 97 ≤ c.toNat
        · have h2 : ¬ ((c.toNat : Int) ≤ 122) := by omega
          have h1' : (97 : Int) ≤ (c.toNat : Int) := by omega
          go_wp2
          go_roundw
          case rel => exact ⟨k + 1, by omega, by go_num, HK.out, hR, hbel⟩
          case measure => simp [intOf]; omega
        · have h1' : ¬ ((97 : Int) ≤ (c.toNat : Int)) := by omega
          go_wp2
          go_roundw
          case rel => exact ⟨k + 1, by omega, by go_num, HK.out, hR, hbel⟩
          case measure => simp [intOf]; omega
    · obtain rfl : k = t.length := by omega
      obtain ⟨B, hB⟩ := hR
      have HR := Aside0.mk (Kd.R_reads' hB).2.2
      clear hB
      go_wp2
      obtain ⟨W1, hW1⟩ : ∃ W1, W1 = wr := ⟨_, rfl⟩
      subst hW1
      have hcnt : ls.length ≤ 254 := by have := (nm_some H2.out).1.2; have := labels_le ls; omega
      go_loopw [6, 9] (fun s i wq => ∃ k : Nat, k ≤ ls.length ∧ i = .int .i64 k ∧ s = .string (mk (dgS (ls.take k))) ∧ Below W1.heap.size W1 wq) (fun _ i _ => ls.length - (intOf i).toNat)
      case atStart => exact ⟨0, Nat.zero_le _, rfl, rfl, Below.refl _ _⟩
      case round =>
        obtain ⟨i, hi, rfl, rfl, hq⟩ := hrel
        by_cases hil : i < ls.length
        · have hC := Kd.C_below HR.out hq
          obtain ⟨ad, e1, hx⟩ := Kd.at_string hC (i : Int) (by omega) (by rw [List.length_map]; omega)
          cases e1
          rw [rdOf_map ls i hil, Int.toNat_natCast] at hx
          obtain ⟨x, hxe⟩ : ∃ x, x = ls[i] := ⟨_, rfl⟩
          rw [← hxe] at hx
          have HXE := Lib.hid hxe
          clear hxe
          go_wp2
          have hxs : ((mk x).size : Int) = x.length := by rw [mk_size]
          have hxl : x.length ≤ 63 := by rw [HXE.out]; exact ((nm_some H2.out).1.1 _ (List.getElem_mem hil)).2.1
          go_loopw [6, 10] (fun s j wz => ∃ k : Nat, k ≤ x.length ∧ j = .int .i64 k ∧ s = .string (mk (dgS (ls.take i) ++ (x.take k).flatMap dg)) ∧ Below W1.heap.size W1 wz) (fun _ j _ => x.length - (intOf j).toNat)
          case atStart => exact ⟨0, Nat.zero_le _, rfl, by simp, hq⟩
          case round =>
            obtain ⟨k, hk, rfl, rfl, hz⟩ := hrel
            have hC2 := Kd.C_below HR.out hz
            obtain ⟨ad2, e2, hx2⟩ := Kd.at_string hC2 (i : Int) (by omega) (by rw [List.length_map]; omega)
            cases e2
            rw [rdOf_map ls i hil, Int.toNat_natCast, ← HXE.out] at hx2
            clear hx hC2
            by_cases hkx : k < x.length
            · obtain ⟨c, hcc⟩ : ∃ c, c = x[k] := ⟨_, rfl⟩
              have hks : k < (mk x).size := by rw [mk_size]; exact hkx
              have hidx : (mk x)[k]'hks = c := by rw [hcc]; rfl
              have hbd : c.toNat < 256 := c.toNat_lt
              have HIDX := Lib.hid hidx
              have HCC := Lib.hid hcc
              clear hcc
              have hb3 : (convert 54 9 (.slice (some { block := wr.heap.size, off := 0 }) 3 3)).run Try.prog (wr.alloc (Obj.cells #[Value.int .u8 (48 + (c.toNat : Int) / 100), Value.int .u8 (48 + (c.toNat : Int) / 10 % 10), Value.int .u8 (48 + (c.toNat : Int) % 10)] 5)) = .ok (.string (mk (dg3 c))) (wr.alloc (Obj.cells #[Value.int .u8 (48 + (c.toNat : Int) / 100), Value.int .u8 (48 + (c.toNat : Int) / 10 % 10), Value.int .u8 (48 + (c.toNat : Int) % 10)] 5)) := run_convert_bytes_back (P := Try.prog) _ 54 9 5 ⟨wr.heap.size, 0, none⟩ 3 (dg3 c) Try.underlying54 Try.underlying5 Try.underlying9 (dg3_cells c wr)
              have hd1 := dg_part ls i k hil (by rw [← HXE.out]; omega)
              rw [← HXE.out] at hd1
              have hd2 := (nm_some H2.out).1.2
              obtain ⟨D, hD⟩ : ∃ D, D = dgS (ls.take i) ++ (x.take k).flatMap dg := ⟨_, rfl⟩
              rw [← hD] at hd1 ⊢
              have HDD := Lib.hid hD
              have hds : (mk D).size ≤ 2000 := by rw [mk_size]; omega
              have hn1 : ¬ 9223372036854775807 < 1 + (mk (dg3 c)).size := by rw [mk_size]; show ¬ _ < 1 + 3; omega
              have hn2 : ¬ 9223372036854775807 < (mk D).size + (1 + (mk (dg3 c)).size) := by have : (mk (dg3 c)).size = 3 := rfl; omega
              clear hD hd1 hd2
              go_wp2
              go_roundw
              case rel =>
                refine ⟨k + 1, by omega, by go_num, ?_, below_alloc hz _⟩
                rw [dg_succ x k hkx, ← List.append_assoc, ← HDD.out, ← HCC.out]
                show Value.string (mk D ++ (mk [92] ++ mk (dg3 c))) = _
                rw [mk_app, mk_app]; rfl
              case measure => simp [intOf]; omega
            · obtain rfl : k = x.length := by omega
              have hd1 := dg_part ls i x.length hil (by rw [← HXE.out]; omega)
              rw [← HXE.out] at hd1
              have hd2 := (nm_some H2.out).1.2
              obtain ⟨D, hD⟩ : ∃ D, D = dgS (ls.take i) ++ (x.take x.length).flatMap dg := ⟨_, rfl⟩
              rw [← hD] at hd1 ⊢
              have HDD := Lib.hid hD
              have hds : (mk D).size ≤ 2000 := by rw [mk_size]; omega
              have hn2 : ¬ 9223372036854775807 < (mk D).size + 1 := by omega
              clear hD hd1 hd2
              go_wp2
              go_roundw
              case rel =>
                refine ⟨i + 1, by omega, by go_num, ?_, hz⟩
                rw [dgS_succ ls i hil, ← HXE.out]
                show Value.string (mk D ++ mk [46]) = _
                rw [mk_app, HDD.out, List.take_length, List.append_assoc]
              case measure => simp [intOf]; omega
        · obtain rfl : i = ls.length := by omega
          rw [List.take_length]
          have hat2 := hat.low hq (g := w1.heap.size) (B := W1.heap.size) hat.lt
          have hback := run_convert_bytes_back (P := Try.prog) wr 54 9 5 ⟨w1.heap.size, 0, none⟩ cap (upT t) Try.underlying54 Try.underlying5 Try.underlying9 (fun j hj => by
            rw [add_plain, cell_of_row wr w1.heap.size j _ _ _ hat2]; simp only [List.getElem?_toArray]
            have hj' : j < t.length := by simpa [upT] using hj
            rw [List.getElem?_append_left (by rw [upCells_len]; exact hj')]; exact upCells_end t j hj)
          rw [show (upT t).length = (mk t).size from by rw [mk_size]; simp [upT]] at hback
          have hh := nm_some H2.out
          have hb4 := prS_len ls
          have hb5 := dgS_len ls
          have hp1 := c_parse (n := n) (t := upT t) (by simp [upT]; omega) (by rw [parse_up, HT.out]; exact (short_whole H2.out H3.out))
          have hp2 := c_parse (n := n) (t := t.take (t.length - 1)) (by rw [List.length_take]; omega) P3.out
          have hp3 := c_parse (n := n) (t := dgS ls) (by have := hh.1.2; omega) (digits_parse H2.out H3.out)
          have hwi : wrap64 (((mk t).size : Int) - 1) = ((t.length - 1 : Nat) : Int) := by rw [mk_size]; exact wrap_pred p1 (by omega)
          have he : (mk t).extract 0 (t.length - 1) = mk (t.take (t.length - 1)) := by rw [mk_extract, List.drop_zero]
          rw [← he] at hp2
          have hi3 : wrap64 (((mk t).size : Int) - 1) ≤ ((mk t).size : Int) := Int.le_of_lt hi0.2
          have hi4 := hi0.1
          have hall : ∀ s, s = mk (upT t) ∨ s = (mk t).extract 0 (t.length - 1) ∨ s = mk (dgS ls) → ∀ w, Calls Try.prog 38 #[.string s] w fun e w' => e = .returned (.tuple #[.string (mk n), .int .i64 0]) ∧ Below w.heap.size w w' := by
            intro s hs w
            rcases hs with rfl | rfl | rfl
            · exact hp1 w
            · exact hp2 w
            · exact hp3 w
          have HALL := Lib.hid hall
          have hnn : ((mk n).toList == (mk n).toList) = true := by simp
          have HB := Aside0.mk (hbel.trans (Below.mono hq hbel.size))
          clear hh hb4 hb5 hp1 hp2 hp3 hwi he hall
          go_wp2_with (first | (go_at_call 24; refine (c_first _).mono ?_; rintro e wn ⟨rfl, hb⟩; have n0_ := Aside0.mk (below_step (by repeat (first | (with_reducible first | exact HB.out | apply below_alloc | apply pw_below_drewN | apply below_drew1) | exact HB.out)) hb); clear HB; have HB := n0_; clear n0_; clear hb) | (go_at_call 38; refine (HALL.out _ (by first | (with_reducible exact Or.inl rfl) | (with_reducible exact Or.inr (Or.inl rfl)) | (with_reducible exact Or.inr (Or.inr rfl))) _).mono ?_; rintro e wn ⟨rfl, hb⟩; have n0_ := Aside0.mk (below_step (by repeat (first | (with_reducible first | exact HB.out | apply below_alloc | apply pw_below_drewN | apply below_drew1) | exact HB.out)) hb); clear HB; have HB := n0_; clear n0_; clear hb))
          go_ret
          exact ⟨rfl, (by repeat (first | (with_reducible first | exact HB.out | apply below_alloc | apply pw_below_drewN | apply below_drew1) | exact HB.out))⟩
theorem NameCase_walk (n : T) (w : World) : Calls Try.prog 12 #[.string (mk n)] w fun e w' => e = .returned (.bool true) ∧ Below w.heap.size w w' := by
  by_cases h : n.length > 2000 ∨ nm n = none ∨ n = [0]
  · exact case_skip n w h
  · obtain ⟨ls, hls⟩ : ∃ ls, nm n = some ls := by
      cases hq : nm n with
      | none => exact absurd (Or.inr (Or.inl hq)) h
      | some x => exact ⟨x, rfl⟩
    refine case_walk n ls w (by omega) hls ?_
    rintro rfl
    exact h (Or.inr (Or.inr (nm_some hls).2))
end Go.Proofs.Ytoocmjdnboldhaa.Nl
