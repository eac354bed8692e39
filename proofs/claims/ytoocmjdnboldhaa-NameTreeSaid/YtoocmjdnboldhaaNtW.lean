/- NameTree: Compare is an order, a name comes ahead of what is under it, each is under its parent and the root, and what two have in common is the longest that both are under; no conditions. -/
import Derived.Test.YtoocmjdnboldhaaNlB
import Derived.Test.YtoocmjdnboldhaaPNameTreex3
import Derived.Deep.DeepCutAuto
import Derived.Outline
namespace Go.Proofs.Ytoocmjdnboldhaa.Nl
open Go.RowKit Go.Proofs.Ytoocmjdnboldhaa.PNameTree Go.Proofs.YtoocmjdnboldhaaW.PrintWords Go.Proofs.YtoocmjdnboldhaaW.PrintLast Go.Proofs.YtoocmjdnboldhaaW.PrintMore
set_option linter.unusedVariables false
set_option linter.unusedSimpArgs false
theorem c_compare (a b : T) (w : World) : Calls Try.prog 30 #[.string (mk a), .string (mk b)] w fun e w' => e = .returned (.int .i64 (cmpN a b)) ∧ Below w.heap.size w w' :=
  name_Compare.calls 1001 (mk a) (mk b) _ w (compare_ref a b 1001 (by omega))
theorem c_under (a b : T) (w : World) : Calls Try.prog 28 #[.string (mk a), .string (mk b)] w fun e w' => e = .returned (.bool (under a b)) ∧ Below w.heap.size w w' :=
  name_Under.calls 1000 (mk a) (mk b) _ w (under_ref a b 1000 (by omega))
theorem c_under_root (a : T) (w : World) : Calls Try.prog 28 #[.string (mk a), .string ⟨#[0]⟩] w fun e w' => e = .returned (.bool (under a [0])) ∧ Below w.heap.size w w' := c_under a [0] w
theorem c_may (a : T) (w : World) : Calls Try.prog 35 #[.string (mk a)] w fun e w' => e = .returned (.bool (nm a).isSome) ∧ Below w.heap.size w w' :=
  name_May.calls 1000 (mk a) _ w (may_ref a 1000 (by omega))
theorem c_parent (a : T) (w : World) : Calls Try.prog 36 #[.string (mk a)] w fun e w' => e = .returned (.tuple #[.string (mk (parent a).1), .bool (parent a).2]) ∧ Below w.heap.size w w' :=
  name_Parent.calls 1000 (mk a) _ _ w (parent_ref a 1000 (by omega))
theorem first_true : rhzlaw2_first.f 300 = some true := by decide +kernel
theorem c_first (w : World) : Calls Try.prog 24 #[] w fun e w' => e = .returned (.bool true) ∧ Below w.heap.size w w' :=
  rhzlaw2_first.calls 300 true w first_true
theorem c_common (a b : T) (g c : Nat) (hc : 1 ≤ c) (w : World) (h : w.cell? ⟨g, 0, none⟩ = some (.string (mk b))) : Calls Try.prog 33 #[.string (mk a), .slice (some ⟨g, 0, none⟩) 1 c] w fun e w' => e = .returned (.string (mk (common a [b]))) ∧ Below w.heap.size w w' := by
  refine name_Common.calls 2002 (mk a) (some ⟨g, 0, none⟩) c [mk b] _ w (Kd.C_of_reads (d := ByteArray.empty) ⟨rfl, by simp, fun _ => ⟨_, rfl, ?_⟩⟩) hc (common_ref a [b] (by simp) 2002 (by omega))
  intro j hj
  obtain rfl : j = 0 := by simp at hj; exact hj
  exact h
theorem c_common_new (a b : T) (W : World) : Calls Try.prog 33 #[.string (mk a), .slice (some ⟨W.heap.size, 0, none⟩) 1 1] (W.alloc (.cells #[.string (mk b)] 9)) fun e w' => e = .returned (.string (mk (common a [b]))) ∧ Below (W.alloc (.cells #[.string (mk b)] 9)).heap.size (W.alloc (.cells #[.string (mk b)] 9)) w' :=
  c_common a b W.heap.size 1 (Nat.le_refl _) _ (by simp [World.cell?_alloc_new])
theorem tree_under {a b : T} {la lb : List T} (ha : nm a = some la) (hb : nm b = some lb) : under a [0] = true ∧ under a a = true ∧ (under a b = true → decide (cmpN a b < 0) = false) := by
  refine ⟨?_, ?_, ?_⟩
  · unfold under; rw [ha, nm_root]; simp
  · unfold under; rw [ha]; simp
  · intro h
    unfold under at h; rw [ha, hb] at h
    have h' : lb <:+ la := of_decide_eq_true h
    unfold cmpN; rw [ha, hb]
    have := cmpL_prefix la.reverse lb.reverse (List.reverse_prefix.2 h')
    rw [decide_eq_false_iff_not]
    show ¬ cmpL la.reverse lb.reverse < 0
    omega
theorem common_one {a b : T} {la lb : List T} (ha : nm a = some la) (hb : nm b = some lb) : common a [b] = enc (comm la lb) := by
  unfold common; rw [List.foldl_cons, ha, List.foldl_nil]; simp [hb]
theorem tree_common {a b : T} {la lb : List T} (ha : nm a = some la) (hb : nm b = some lb) : under a (common a [b]) = true ∧ under b (common a [b]) = true ∧ common b [a] = common a [b] ∧ common a [b] = enc (comm la lb) := by
  have e := common_one ha hb
  have hn := nm_enc (Nm_suffix (nm_some ha).1 (comm_left la lb))
  refine ⟨?_, ?_, ?_, e⟩
  · unfold under; rw [e, ha, hn]; simpa using comm_left la lb
  · unfold under; rw [e, hb, hn]; simpa using comm_right la lb
  · rw [e, common_one hb ha, comm_comm]
theorem tree_parent {a : T} {la : List T} (ha : nm a = some la) : ((parent a).2 = false ∧ ((mk a).toList == [0]) = true) ∨ ((parent a).2 = true ∧ ((mk a).toList == [0]) = false ∧ under a (parent a).1 = true ∧ under (parent a).1 a = false) := by
  have h := nm_some ha
  rw [mk_list]
  cases la with
  | nil => left; refine ⟨?_, ?_⟩
           · unfold parent; rw [ha]
           · rw [h.2]; rfl
  | cons x xs =>
    have hq := nm_enc (Nm_tail h.1)
    right; refine ⟨?_, ?_, ?_, ?_⟩
    · unfold parent; rw [ha]
    · rw [beq_eq_false_iff_ne, h.2]; intro e
      have := enc_inj h.1 Nm_nil (by rw [e]; rfl)
      cases this
    · unfold under parent; rw [ha]; simp [hq]
    · unfold under parent; rw [ha]; simp only [hq]
      rw [decide_eq_false_iff_not]; intro e; have := e.length_le; simp at this; omega
def strSize (v : Value) : Nat := match v with
  | .string s => s.size
  | _ => 0
theorem tree_end {a b : T} {la lb : List T} (ha : nm a = some la) (hb : nm b = some lb) : (under a b == ((mk (enc (comm la lb))).toList == (mk b).toList)) = true := by
  rw [beq_iff_eq, mk_list, mk_list, Bool.eq_iff_iff, beq_iff_eq]
  unfold under; rw [ha, hb]; simp only [decide_eq_true_iff]
  rw [← comm_eq_right]
  have h := nm_some hb
  constructor
  · intro e; rw [e, ← h.2]
  · intro e; exact enc_inj (Nm_suffix (nm_some ha).1 (comm_left la lb)) h.1 (by rw [e, ← h.2])
theorem tree_step {a b : T} {la lb t : List T} (ha : nm a = some la) (hb : nm b = some lb) (h1 : comm la lb <:+ t) (h2 : t <:+ la) (he : t ≠ comm la lb) :
    ((mk (enc t)).toList == (mk (enc (comm la lb))).toList) = false ∧ decide ((mk (enc (comm la lb))).size < (mk (enc t)).size) = true ∧ under b (enc t) = false ∧ (parent (enc t)).2 = true ∧ ∃ x xs, t = x :: xs ∧ parent (enc t) = (enc xs, true) ∧ (comm la lb <:+ xs ∧ xs <:+ la) := by
  have hN := Nm_suffix (nm_some ha).1 h2
  have hn := nm_enc hN
  have hc := Nm_suffix (nm_some ha).1 (comm_left la lb)
  obtain ⟨p, hp⟩ := h1
  have hp0 : p ≠ [] := by rintro rfl; exact he hp.symm
  obtain ⟨x, p', rfl⟩ : ∃ x p', p = x :: p' := by cases p with
    | nil => exact absurd rfl hp0
    | cons x p' => exact ⟨x, p', rfl⟩
  have ht : t = x :: (p' ++ comm la lb) := hp.symm
  refine ⟨?_, ?_, ?_, ?_, x, p' ++ comm la lb, ht, ?_, ⟨p', rfl⟩, ?_⟩
  · rw [mk_list, mk_list, beq_eq_false_iff_ne]; intro e; exact he (enc_inj hN hc e)
  · rw [mk_size, mk_size, decide_eq_true_iff, ht, enc_len_cons]
    have := enc_len_append p' (comm la lb); have := enc_len_pos p'; omega
  · unfold under; rw [hb, hn]; simp only
    rw [decide_eq_false_iff_not]; intro e
    exact he ((comm_max h2 e).eq_of_length_le (by rw [ht]; simp; omega))
  · unfold parent; rw [hn, ht]
  · unfold parent; rw [hn, ht]
  · exact List.IsSuffix.trans ⟨[x], by rw [ht]; rfl⟩ h2
set_option maxHeartbeats 8000000 in
set_option maxRecDepth 100000 in
theorem long_walk (a b c : T) (w : World) (h : a.length > 2000 ∨ b.length > 2000 ∨ c.length > 2000) : Calls Try.prog 10 #[.string (mk a), .string (mk b), .string (mk c)] w fun e w' => e = .returned (.bool true) ∧ Below w.heap.size w w' := by
  have HB := Aside0.mk (Below.refl w.heap.size w)
  have ha : decide (2000 < ((mk a).size : Int)) = decide (2000 < a.length) := by rw [mk_size, decide_eq_decide]; omega
  have hb : decide (2000 < ((mk b).size : Int)) = decide (2000 < b.length) := by rw [mk_size, decide_eq_decide]; omega
  have hc : decide (2000 < ((mk c).size : Int)) = decide (2000 < c.length) := by rw [mk_size, decide_eq_decide]; omega
  by_cases h1 : 2000 < a.length
  · rw [decide_eq_true h1] at ha; clear hb hc h
    go_enter Try.func10, Try.ntmps10
    go_wp2_with (go_at_call 24; refine (c_first _).mono ?_; rintro e w1 ⟨rfl, hb⟩; have n0_ := Aside0.mk (below_step (by repeat (first | (with_reducible first | exact HB.out | apply below_alloc | apply pw_below_drewN | apply below_drew1) | exact HB.out)) hb); clear HB; have HB := n0_; clear n0_; clear hb)
    go_ret
    exact ⟨rfl, (by repeat (first | (with_reducible first | exact HB.out | apply below_alloc | apply pw_below_drewN | apply below_drew1) | exact HB.out))⟩
  · rw [decide_eq_false h1] at ha
    by_cases h2 : 2000 < b.length
    · rw [decide_eq_true h2] at hb; clear hc h
      go_enter Try.func10, Try.ntmps10
      go_wp2_with (go_at_call 24; refine (c_first _).mono ?_; rintro e w1 ⟨rfl, hb⟩; have n0_ := Aside0.mk (below_step (by repeat (first | (with_reducible first | exact HB.out | apply below_alloc | apply pw_below_drewN | apply below_drew1) | exact HB.out)) hb); clear HB; have HB := n0_; clear n0_; clear hb)
      go_ret
      exact ⟨rfl, (by repeat (first | (with_reducible first | exact HB.out | apply below_alloc | apply pw_below_drewN | apply below_drew1) | exact HB.out))⟩
    · rw [decide_eq_false h2] at hb
      have h3 : 2000 < c.length := by omega
      rw [decide_eq_true h3] at hc; clear h
      go_enter Try.func10, Try.ntmps10
      go_wp2_with (go_at_call 24; refine (c_first _).mono ?_; rintro e w1 ⟨rfl, hb⟩; have n0_ := Aside0.mk (below_step (by repeat (first | (with_reducible first | exact HB.out | apply below_alloc | apply pw_below_drewN | apply below_drew1) | exact HB.out)) hb); clear HB; have HB := n0_; clear n0_; clear hb)
      go_ret
      exact ⟨rfl, (by repeat (first | (with_reducible first | exact HB.out | apply below_alloc | apply pw_below_drewN | apply below_drew1) | exact HB.out))⟩
theorem order_false (a b c : T) : ¬ (cmpN a b ≤ 0 ∧ cmpN b c ≤ 0 ∧ 0 < cmpN a c) ∧ ¬ (0 ≤ cmpN a b ∧ 0 ≤ cmpN b c ∧ cmpN a c < 0) := by
  have h1 := cmpN_trans a b c
  have h2 := cmpN_trans c b a
  rw [cmpN_swap a b, cmpN_swap b c, cmpN_swap a c] at h2
  constructor
  · rintro ⟨x, y, z⟩; have := h1 x y; omega
  · rintro ⟨x, y, z⟩; have := h2 (by omega) (by omega); omega
set_option maxHeartbeats 8000000 in
set_option maxRecDepth 100000 in
theorem short_walk (a b c : T) (w : World) (h1 : a.length ≤ 2000) (h2 : b.length ≤ 2000) (h3 : c.length ≤ 2000) : Calls Try.prog 10 #[.string (mk a), .string (mk b), .string (mk c)] w fun e w' => e = .returned (.bool true) ∧ Below w.heap.size w w' := by
  have HB := Aside0.mk (Below.refl w.heap.size w)
  have ha : decide (2000 < ((mk a).size : Int)) = false := by rw [mk_size, decide_eq_false_iff_not]; omega
  have hb : decide (2000 < ((mk b).size : Int)) = false := by rw [mk_size, decide_eq_false_iff_not]; omega
  have hc : decide (2000 < ((mk c).size : Int)) = false := by rw [mk_size, decide_eq_false_iff_not]; omega
  clear h1 h2 h3
  go_enter Try.func10, Try.ntmps10
  go_upto_region 6 with (first | (go_at_call 24; refine (c_first _).mono ?_; rintro e w1 ⟨rfl, hb⟩; have n0_ := Aside0.mk (below_step (by repeat (first | (with_reducible first | exact HB.out | apply below_alloc | apply pw_below_drewN | apply below_drew1) | exact HB.out)) hb); clear HB; have HB := n0_; clear n0_; clear hb) | (go_at_call 30; refine (c_compare _ _ _).mono ?_; rintro e w1 ⟨rfl, hb⟩; have n0_ := Aside0.mk (below_step (by repeat (first | (with_reducible first | exact HB.out | apply below_alloc | apply pw_below_drewN | apply below_drew1) | exact HB.out)) hb); clear HB; have HB := n0_; clear n0_; clear hb))
  have hr := cmpN_range a b
  have hsw := cmpN_swap a b
  have f0 : cmpN a b = -cmpN b a := by omega
  have r1 : -1 ≤ cmpN b a := by omega
  have r2 : cmpN b a ≤ 1 := by omega
  have f1 : (cmpN a b != -cmpN b a) = false := by rw [bne_eq_false_iff_eq]; exact f0
  have f2 : decide (cmpN a b < -1) = false := by rw [decide_eq_false_iff_not]; omega
  have f3 : decide (1 < cmpN a b) = false := by rw [decide_eq_false_iff_not]; omega
  have f4 : (cmpN a b == 0) = ((mk a).toList == (mk b).toList) := by
    rw [mk_list, mk_list, Bool.eq_iff_iff, beq_iff_eq, beq_iff_eq]; exact cmpN_eq a b
  obtain ⟨o1, o2⟩ := order_false a b c
  clear hr hsw f0
  go_cut [84] (fun s wx => s = .bool false ∧ Aside0 (Below w.heap.size w wx))
  case first =>
    have O1 := Aside0.mk o1
    have O2 := Aside0.mk o2
    clear o1 o2
    by_cases px : cmpN a b ≤ 0 <;> by_cases py : cmpN b c ≤ 0 <;> by_cases qx : 0 ≤ cmpN a b <;> by_cases qy : 0 ≤ cmpN b c
    all_goals (try (exfalso; omega))
    all_goals (have pz : cmpN a b ≤ 0 → cmpN b c ≤ 0 → decide (0 < cmpN a c) = false := fun u v => by rw [decide_eq_false_iff_not]; exact fun z => O1.out ⟨u, v, z⟩)
    all_goals (have qz : 0 ≤ cmpN a b → 0 ≤ cmpN b c → decide (cmpN a c < 0) = false := fun u v => by rw [decide_eq_false_iff_not]; exact fun z => O2.out ⟨u, v, z⟩)
    all_goals (try (have pz' := pz px py)) 
    all_goals (try (have qz' := qz qx qy))
    all_goals (clear pz qz)
    all_goals (go_wp2_with (go_at_call 30; refine (c_compare _ _ _).mono ?_; rintro e w1 ⟨rfl, hb⟩; have n0_ := Aside0.mk (below_step (by repeat (first | (with_reducible first | exact HB.out | apply below_alloc | apply pw_below_drewN | apply below_drew1) | exact HB.out)) hb); clear HB; have HB := n0_; clear n0_; clear hb))
    all_goals (go_meet)
    all_goals (exact ⟨rfl, ⟨(by repeat (first | (with_reducible first | exact HB.out | apply below_alloc | apply pw_below_drewN | apply below_drew1) | exact HB.out))⟩⟩)
  case rest =>
    obtain ⟨rfl, HB⟩ := hcut
    clear o1 o2 f1 f2 f3 f4 r1 r2 ha hb hc
    by_cases hv : nm a = none ∨ nm b = none
    · have v1 : (nm a).isSome = false ∨ ((nm a).isSome = true ∧ (nm b).isSome = false) := by
        rcases hv with h | h
        · left; rw [h]; rfl
        · cases hq : nm a with
          | none => left; rfl
          | some x => right; rw [h]; exact ⟨rfl, rfl⟩
      have v2 : under a b = false := by
        unfold under; rcases hv with h | h
        · rw [h]
        · rw [h]; cases nm a <;> rfl
      have v3 : mk (common a [b]) = ⟨#[]⟩ := by
        unfold common; rcases hv with h | h
        · rw [h]; rfl
        · rw [List.foldl_cons, h]; cases nm a <;> rfl
      clear hv
      rcases v1 with v1 | ⟨v0, v1⟩
      all_goals
        go_wp2_with (first | (go_at_call 24; refine (c_first _).mono ?_; rintro e w1 ⟨rfl, hb⟩; have n0_ := Aside0.mk (below_step (by repeat (first | (with_reducible first | exact HB.out | apply below_alloc | apply pw_below_drewN | apply below_drew1) | exact HB.out)) hb); clear HB; have HB := n0_; clear n0_; clear hb) | (go_at_call 35; refine (c_may _ _).mono ?_; rintro e w1 ⟨rfl, hb⟩; have n0_ := Aside0.mk (below_step (by repeat (first | (with_reducible first | exact HB.out | apply below_alloc | apply pw_below_drewN | apply below_drew1) | exact HB.out)) hb); clear HB; have HB := n0_; clear n0_; clear hb) | (go_at_call 28; refine (c_under _ _ _).mono ?_; rintro e w1 ⟨rfl, hb⟩; have n0_ := Aside0.mk (below_step (by repeat (first | (with_reducible first | exact HB.out | apply below_alloc | apply pw_below_drewN | apply below_drew1) | exact HB.out)) hb); clear HB; have HB := n0_; clear n0_; clear hb) | (go_at_call 33; refine (c_common_new _ _ _).mono ?_; rintro e w1 ⟨rfl, hb⟩; have n0_ := Aside0.mk (below_step (by repeat (first | (with_reducible first | exact HB.out | apply below_alloc | apply pw_below_drewN | apply below_drew1) | exact HB.out)) hb); clear HB; have HB := n0_; clear n0_; clear hb))
        go_ret
        exact ⟨rfl, (by repeat (first | (with_reducible first | exact HB.out | apply below_alloc | apply pw_below_drewN | apply below_drew1) | exact HB.out))⟩
    · obtain ⟨la, hla⟩ : ∃ la, nm a = some la := by cases h : nm a with
        | none => exact absurd (.inl h) hv
        | some x => exact ⟨x, rfl⟩
      obtain ⟨lb, hlb⟩ : ∃ lb, nm b = some lb := by cases h : nm b with
        | none => exact absurd (.inr h) hv
        | some x => exact ⟨x, rfl⟩
      have v1 : (nm a).isSome = true := by rw [hla]; rfl
      have v2 : (nm b).isSome = true := by rw [hlb]; rfl
      obtain ⟨ur, ua, hneg⟩ := tree_under hla hlb
      obtain ⟨q1, q2, q3, q4⟩ := tree_common hla hlb
      obtain ⟨k, hk⟩ : ∃ k, common a [b] = k := ⟨_, rfl⟩
      rw [hk] at q1 q2 q3 q4
      have HL := Lib.hid hla
      have HLB := Lib.hid hlb
      have Q4 := Lib.hid q4
      clear hv hla hlb q4
      have hu : (under a b = true ∧ decide (cmpN a b < 0) = false) ∨ under a b = false := by
        cases h : under a b
        · exact .inr rfl
        · exact .inl ⟨rfl, hneg h⟩
      have hp : ((parent a).2 = false ∧ ((mk a).toList == [0]) = true) ∨ ((parent a).2 = true ∧ ((mk a).toList == [0]) = false ∧ under a (parent a).1 = true ∧ under (parent a).1 a = false) := tree_parent HL.out
      clear hneg
      go_upto_region 10 with (go_at_call 35; refine (c_may _ _).mono ?_; rintro e w1 ⟨rfl, hb⟩; have n0_ := Aside0.mk (below_step (by repeat (first | (with_reducible first | exact HB.out | apply below_alloc | apply pw_below_drewN | apply below_drew1) | exact HB.out)) hb); clear HB; have HB := n0_; clear n0_; clear hb)
      go_cut [124] (fun s wx => s = .bool false ∧ Aside0 (Below w.heap.size w wx))
      case first =>
        rcases hu with ⟨hu, hu2⟩ | hu
        all_goals
          go_wp2_with (first | (go_at_call_of 28 (Value.string ⟨#[0]⟩); refine (c_under_root _ _).mono ?_; rintro e w1 ⟨rfl, hb⟩; have n0_ := Aside0.mk (below_step (by repeat (first | (with_reducible first | exact HB.out | apply below_alloc | apply pw_below_drewN | apply below_drew1) | exact HB.out)) hb); clear HB; have HB := n0_; clear n0_; clear hb) | (go_at_call 28; refine (c_under _ _ _).mono ?_; rintro e w1 ⟨rfl, hb⟩; have n0_ := Aside0.mk (below_step (by repeat (first | (with_reducible first | exact HB.out | apply below_alloc | apply pw_below_drewN | apply below_drew1) | exact HB.out)) hb); clear HB; have HB := n0_; clear n0_; clear hb))
          go_meet
          exact ⟨rfl, ⟨(by repeat (first | (with_reducible first | exact HB.out | apply below_alloc | apply pw_below_drewN | apply below_drew1) | exact HB.out))⟩⟩
      case rest =>
        obtain ⟨rfl, HB⟩ := hcut
        clear hu v1 v2 ur ua
        go_upto_region 13 with (go_at_call 36; refine (c_parent _ _).mono ?_; rintro e w1 ⟨rfl, hb⟩; have n0_ := Aside0.mk (below_step (by repeat (first | (with_reducible first | exact HB.out | apply below_alloc | apply pw_below_drewN | apply below_drew1) | exact HB.out)) hb); clear HB; have HB := n0_; clear n0_; clear hb)
        go_cut [11, 147] (fun s11 s wx => (∃ o : Bool, s11 = .bool o) ∧ s = .bool false ∧ Aside0 (Below w.heap.size w wx))
        case first =>
          rcases hp with ⟨p1, p2⟩ | ⟨p1, p2, p3, p4⟩
          all_goals
            go_wp2_with (go_at_call 28; refine (c_under _ _ _).mono ?_; rintro e w1 ⟨rfl, hb⟩; have n0_ := Aside0.mk (below_step (by repeat (first | (with_reducible first | exact HB.out | apply below_alloc | apply pw_below_drewN | apply below_drew1) | exact HB.out)) hb); clear HB; have HB := n0_; clear n0_; clear hb)
            go_meet
            exact ⟨⟨_, rfl⟩, rfl, ⟨(by repeat (first | (with_reducible first | exact HB.out | apply below_alloc | apply pw_below_drewN | apply below_drew1) | exact HB.out))⟩⟩
        case rest =>
          obtain ⟨⟨o, rfl⟩, rfl, HB⟩ := hcut
          clear hp
          have hk1 : ((mk k).toList == (mk k).toList) = true := by simp
          go_upto_region 18 with (first | (go_at_call 28; refine (c_under _ _ _).mono ?_; rintro e w1 ⟨rfl, hb⟩; have n0_ := Aside0.mk (below_step (by repeat (first | (with_reducible first | exact HB.out | apply below_alloc | apply pw_below_drewN | apply below_drew1) | exact HB.out)) hb); clear HB; have HB := n0_; clear n0_; clear hb) | (go_at_call 33; refine (c_common_new _ _ _).mono ?_; rintro e w1 ⟨rfl, hb⟩; have n0_ := Aside0.mk (below_step (by repeat (first | (with_reducible first | exact HB.out | apply below_alloc | apply pw_below_drewN | apply below_drew1) | exact HB.out)) hb); clear HB; have HB := n0_; clear n0_; clear hb))
          go_wp2_with fail
          go_loopw [11, 13] (fun s11 s13 wr => ∃ (t : List T) (o : Bool), s11 = .bool o ∧ s13 = .string (mk (enc t)) ∧ comm la lb <:+ t ∧ t <:+ la ∧ Aside0 (Below w.heap.size w wr)) (fun _ s _ => strSize s)
          case atStart => exact ⟨la, o, rfl, by rw [← (nm_some HL.out).2], comm_left la lb, List.suffix_refl _, ⟨(by repeat (first | (with_reducible first | exact HB.out | apply below_alloc | apply pw_below_drewN | apply below_drew1) | exact HB.out))⟩⟩
          case round =>
            clear HB
            obtain ⟨t, o2, rfl, rfl, h1, h2, HB⟩ := hrel
            by_cases he : t = comm la lb
            · have hek : mk (enc t) = mk k := by rw [he, Q4.out]
              have hu := tree_end HL.out HLB.out
              rw [← Q4.out] at hu
              have HE := Lib.hid hek
              clear he h1 h2
              rw [HE.out]
              clear hek
              go_wp2_with (first | (go_at_call 24; refine (c_first _).mono ?_; rintro e w1 ⟨rfl, hb⟩; have n0_ := Aside0.mk (below_step (by repeat (first | (with_reducible first | exact HB.out | apply below_alloc | apply pw_below_drewN | apply below_drew1) | exact HB.out)) hb); clear HB; have HB := n0_; clear n0_; clear hb) | (go_at_call 28; refine (c_under _ _ _).mono ?_; rintro e w1 ⟨rfl, hb⟩; have n0_ := Aside0.mk (below_step (by repeat (first | (with_reducible first | exact HB.out | apply below_alloc | apply pw_below_drewN | apply below_drew1) | exact HB.out)) hb); clear HB; have HB := n0_; clear n0_; clear hb))
              go_ret
              exact ⟨rfl, (by repeat (first | (with_reducible first | exact HB.out | apply below_alloc | apply pw_below_drewN | apply below_drew1) | exact HB.out))⟩
            · obtain ⟨g1, g2, g3, g4, x, xs, rfl, g5, g6⟩ := tree_step HL.out HLB.out h1 h2 he
              rw [← Q4.out] at g1 g2
              have H1 := Aside0.mk g5
              have H2 := Aside0.mk g6
              clear h1 h2 he g5 g6
              go_wp2_with (first | (go_at_call 28; refine (c_under _ _ _).mono ?_; rintro e w1 ⟨rfl, hb⟩; have n0_ := Aside0.mk (below_step (by repeat (first | (with_reducible first | exact HB.out | apply below_alloc | apply pw_below_drewN | apply below_drew1) | exact HB.out)) hb); clear HB; have HB := n0_; clear n0_; clear hb) | (go_at_call 36; refine (c_parent _ _).mono ?_; rintro e w1 ⟨rfl, hb⟩; have n0_ := Aside0.mk (below_step (by repeat (first | (with_reducible first | exact HB.out | apply below_alloc | apply pw_below_drewN | apply below_drew1) | exact HB.out)) hb); clear HB; have HB := n0_; clear n0_; clear hb))
              refine ⟨⟨xs, true, rfl, by rw [H1.out], H2.out.1, H2.out.2, ⟨(by repeat (first | (with_reducible first | exact HB.out | apply below_alloc | apply pw_below_drewN | apply below_drew1) | exact HB.out))⟩⟩, ?_⟩
              rw [H1.out]; simp only [strSize, mk_size]; rw [enc_len_cons]; omega
theorem NameTree_walk (a b c : T) (w : World) : Calls Try.prog 10 #[.string (mk a), .string (mk b), .string (mk c)] w fun e w' => e = .returned (.bool true) ∧ Below w.heap.size w w' := by
  by_cases h : a.length > 2000 ∨ b.length > 2000 ∨ c.length > 2000
  · exact long_walk a b c w h
  · exact short_walk a b c w (by omega) (by omega) (by omega)
end Go.Proofs.Ytoocmjdnboldhaa.Nl
