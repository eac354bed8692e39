/- What the reference's functions on names (rhzref1: End, MayName, Labels, Compare, Under, Parent, Common) come to, in the words of lists of labels. -/
import Derived.Test.YtoocmjdnboldhaaNmCNameOrders
import Derived.Test.YtoocmjdnboldhaaNmUNameOrders
namespace Go.Proofs.Ytoocmjdnboldhaa.Nl
open Go.RowKit Go.Proofs.Ytoocmjdnboldhaa.PNameOrders Go.Proofs.YtoocmjdnboldhaaW.PrintWords Go.Proofs.YtoocmjdnboldhaaW.PrintLast Go.Proofs.YtoocmjdnboldhaaW.PrintMore
set_option linter.unusedVariables false
set_option linter.unusedSimpArgs false
def lowc (c : UInt8) : Bool := decide (¬ (65 ≤ c.toNat ∧ c.toNat ≤ 90))
theorem lowc_low (c : UInt8) : lowc c = true ↔ low c = c := by
  unfold lowc low
  rw [decide_eq_true_iff]
  by_cases h : 65 ≤ c.toNat ∧ c.toNat ≤ 90
  · rw [if_pos h]
    constructor
    · intro h'; exact absurd h h'
    · intro h'
      have := congrArg UInt8.toNat h'
      rw [ofNat_toNat (by omega)] at this; omega
  · rw [if_neg h]; exact ⟨fun _ => rfl, fun _ => h⟩
theorem all_low (x : T) : x.all lowc = true ↔ lowT x = x := by
  induction x with
  | nil => simp [lowT]
  | cons c x ih =>
    rw [List.all_cons, Bool.and_eq_true, ih, lowc_low]
    unfold lowT
    rw [List.map_cons, List.cons.injEq]
def mayC : Nat → T → Bool
  | 0, _ => true
  | _ + 1, [] => true
  | n + 1, c :: s => (s.take c.toNat).all lowc && mayC n (s.drop c.toNat)
def endC : Nat → T → Nat → Int
  | 0, _, _ => -1
  | _ + 1, [], _ => -1
  | n + 1, c :: s, i => if c.toNat = 0 then (if i + 1 > 255 then -1 else ((i + 1 : Nat) : Int)) else if c.toNat > 63 then -1 else endC n (s.drop c.toNat) (i + (c.toNat + 1))
theorem endC_le : ∀ (n : Nat) (s : T) (i : Nat), endC n s i ≤ 255
  | 0, _, _ => by unfold endC; omega
  | _ + 1, [], _ => by unfold endC; omega
  | n + 1, c :: s, i => by
    unfold endC
    split
    · split <;> omega
    · split
      · omega
      · exact endC_le n _ _
theorem mayC_nil (n : Nat) : mayC n [] = true := by cases n <;> rfl
theorem endC_nil (n i : Nat) : endC n [] i = -1 := by cases n <;> rfl
theorem split_may : ∀ (n : Nat) (s : T) (acc : List T) (i : Nat), s.length < n → i + s.length ≤ 255 → (splitS n s acc).2 = (mayC n s && (endC n s i == ((i + s.length : Nat) : Int)))
  | 0, _, _, _, h, _ => by omega
  | n + 1, [], acc, i, _, _ => by
    rw [endC_nil]
    have : ((-1 : Int) == ((i + ([] : T).length : Nat) : Int)) = false := by rw [beq_eq_false_iff_ne]; omega
    rw [this, Bool.and_false]; rfl
  | n + 1, c :: t, acc, i, h, hi => by
    simp only [List.length_cons] at h hi
    rw [splitS, mayC, endC]
    by_cases h0 : c.toNat = 0
    · rw [if_pos h0, if_pos h0, if_neg (by omega), h0]
      cases t with
      | nil => rw [List.take_nil, List.drop_nil, mayC_nil]; simp
      | cons d t =>
        have : (((i + 1 : Nat) : Int) == ((i + (c :: d :: t).length : Nat) : Int)) = false := by rw [beq_eq_false_iff_ne]; simp; omega
        rw [this, Bool.and_false]; rfl
    · rw [if_neg h0, if_neg h0]
      by_cases h1 : c.toNat > 63
      · rw [if_pos (Or.inl h1), if_pos h1]
        have : ((-1 : Int) == ((i + (c :: t).length : Nat) : Int)) = false := by rw [beq_eq_false_iff_ne]; omega
        rw [this, Bool.and_false]
      · rw [if_neg h1]
        by_cases h2 : c.toNat ≥ t.length + 1
        · rw [if_pos (Or.inr h2), List.drop_eq_nil_of_le (by omega), endC_nil]
          have : ((-1 : Int) == ((i + (c :: t).length : Nat) : Int)) = false := by rw [beq_eq_false_iff_ne]; omega
          rw [this, Bool.and_false]
        · rw [if_neg (by omega)]
          have ih := split_may n (t.drop c.toNat) (acc ++ [t.take c.toNat]) (i + (c.toNat + 1)) (by rw [List.length_drop]; omega) (by rw [List.length_drop]; omega)
          have e : i + (c.toNat + 1) + (t.drop c.toNat).length = i + (c :: t).length := by rw [List.length_drop, List.length_cons]; omega
          rw [e] at ih
          by_cases h3 : lowT (t.take c.toNat) = t.take c.toNat
          · rw [if_pos h3, ih, (all_low _).2 h3, Bool.true_and]
          · rw [if_neg h3]
            have : (t.take c.toNat).all lowc = false := by rw [Bool.eq_false_iff]; exact fun e => h3 ((all_low _).1 e)
            rw [this]; simp
theorem nm_may (t : T) : (nm t).isSome = (mayC (t.length + 1) t && (endC (t.length + 1) t 0 == (t.length : Int))) := by
  by_cases h : t.length ≤ 255
  · have e := split_may (t.length + 1) t [] 0 (by omega) (by omega)
    rw [Nat.zero_add] at e
    rw [← e]
    have e2 : (splitS (t.length + 1) t []).2 = (splitS 256 t []).2 := by
      rw [e]
      have := split_may 256 t [] 0 (by omega) (by omega)
      rw [Nat.zero_add] at this
      rw [this]
      have hm : ∀ (n m : Nat) (s : T), s.length < n → s.length < m → mayC n s = mayC m s := by
        intro n
        induction n with
        | zero => intro m s h; omega
        | succ n ih =>
          intro m s h h'
          obtain ⟨m, rfl⟩ : ∃ q, m = q + 1 := ⟨m - 1, by omega⟩
          cases s with
          | nil => rfl
          | cons c s => simp only [List.length_cons] at h h'; rw [mayC, mayC, ih m _ (by rw [List.length_drop]; omega) (by rw [List.length_drop]; omega)]
      have he : ∀ (n m : Nat) (s : T) (i : Nat), s.length < n → s.length < m → endC n s i = endC m s i := by
        intro n
        induction n with
        | zero => intro m s i h; omega
        | succ n ih =>
          intro m s i h h'
          obtain ⟨m, rfl⟩ : ∃ q, m = q + 1 := ⟨m - 1, by omega⟩
          cases s with
          | nil => rfl
          | cons c s => simp only [List.length_cons] at h h'; rw [endC, endC, ih m _ _ (by rw [List.length_drop]; omega) (by rw [List.length_drop]; omega)]
      rw [hm 256 (t.length + 1) t (by omega) (by omega), he 256 (t.length + 1) t 0 (by omega) (by omega)]
    rw [e2]
    unfold nm
    rw [if_pos h]
    by_cases h2 : (splitS 256 t []).2 = true
    · rw [if_pos h2, h2]; rfl
    · rw [if_neg h2, (Bool.eq_false_iff.2 h2)]; rfl
  · have : (endC (t.length + 1) t 0 == (t.length : Int)) = false := by
      rw [beq_eq_false_iff_ne]; have := endC_le (t.length + 1) t 0; omega
    rw [this, Bool.and_false]
    unfold nm; rw [if_neg h]; rfl
theorem bt_lt (t : T) (i : Nat) (h : i < t.length) : wrap64 (bt (mk t) (i : Int)) = ((t[i].toNat : Nat) : Int) := by
  have := t[i].toNat_lt
  rw [mk_bt t i h]; exact wrap_small (by omega) (by omega)
theorem end_l0 : ∀ (n : Nat) (t : T) (i k : Nat), t.length - i < n → t.length ≤ 2000 → i ≤ 3000 → n < k → rhzref1_End.l0 k (mk t) 0 (i : Int) = some (endC n (t.drop i) i)
  | 0, _, _, _, h, _, _, _ => by omega
  | n + 1, t, i, k, h, ht, hi, hk => by
    obtain ⟨k, rfl⟩ : ∃ m, k = m + 1 := ⟨k - 1, by omega⟩
    rw [rhzref1_End.l0, mk_size]
    by_cases hlt : i < t.length
    · have hc := t[i].toNat_lt
      rw [if_pos (by omega), if_pos (by omega), bt_lt t i hlt, List.drop_eq_getElem_cons hlt, endC, wrap_succ (a := i) (by omega)]
      by_cases h0 : t[i].toNat = 0
      · rw [if_pos (by omega), if_pos h0, show ((i + 1 : Nat) : Int) - 0 = ((i + 1 : Nat) : Int) from by omega, wrap_small (n := ((i + 1 : Nat) : Int)) (by omega) (by omega)]
        by_cases h1 : i + 1 > 255
        · rw [if_pos (by omega), if_pos h1]
        · rw [if_neg (by omega), if_neg h1]
      · rw [if_neg (by omega), if_neg h0]
        by_cases h1 : t[i].toNat > 63
        · rw [if_pos (by omega), if_pos h1]
        · rw [if_neg (by omega), if_neg h1, wrap_succ (a := t[i].toNat) (by omega), wrap_add (a := i) (by omega) (by omega), List.drop_drop]
          have := end_l0 n t (i + (t[i].toNat + 1)) k (by omega) ht (by omega) (by omega)
          rw [this, show i + 1 + t[i].toNat = i + (t[i].toNat + 1) from by omega]
    · rw [if_neg (by omega), List.drop_eq_nil_of_le (by omega)]; rfl
theorem end_ref (t : T) (k : Nat) (ht : t.length ≤ 2000) (hk : 3000 ≤ k) : rhzref1_End.f k (mk t) 0 = some (endC (t.length + 1) t 0) :=
  end_l0 (t.length + 1) t 0 k (by omega) ht (by omega) (by omega)
theorem may_l1 (t : T) (i c F : Nat) (R : Bool) (ht : t.length ≤ 2000) (hi : i ≤ 3000) (hc : c ≤ 255) (hnext : ∀ k, F ≤ k → rhzref1_MayName.l0 k (mk t) ((i + (c + 1) : Nat) : Int) = some R) :
    ∀ (d j k : Nat), min (i + c + 1) t.length - j = d → F + 2 * d + 2 ≤ k → j ≤ 4000 → rhzref1_MayName.l1 k (mk t) (i : Int) (c : Int) (j : Int) = some (((t.drop j).take (i + c + 1 - j)).all lowc && R)
  | 0, j, k, hd, hk, hj => by
    obtain ⟨k, rfl⟩ : ∃ m, k = m + 2 := ⟨k - 2, by omega⟩
    have e : (t.drop j).take (i + c + 1 - j) = [] := by
      by_cases h : i + c + 1 ≤ j
      · rw [show i + c + 1 - j = 0 from by omega]; rfl
      · rw [List.drop_eq_nil_of_le (by omega), List.take_nil]
    have out : rhzref1_MayName.j2 (k + 1) (mk t) (i : Int) (c : Int) (j : Int) false = some R := by
      rw [rhzref1_MayName.j2, if_neg (by decide), wrap_succ (a := c) (by omega), wrap_add (a := i) (by omega) (by omega)]
      exact hnext k (by omega)
    rw [rhzref1_MayName.l1, wrap_add (a := i) (b := c) (by omega) (by omega), mk_size, e, List.all_nil, Bool.true_and]
    by_cases h : j ≤ i + c
    · rw [if_pos (by omega), decide_eq_false (by omega)]; exact out
    · rw [if_neg (by omega)]; exact out
  | d + 1, j, k, hd, hk, hj => by
    obtain ⟨k, rfl⟩ : ∃ m, k = m + 2 := ⟨k - 2, by omega⟩
    have hlt : j < t.length := by omega
    have e : (t.drop j).take (i + c + 1 - j) = t[j] :: (t.drop (j + 1)).take (i + c + 1 - (j + 1)) := by
      rw [List.drop_eq_getElem_cons hlt, show i + c + 1 - j = (i + c + 1 - (j + 1)) + 1 from by omega, List.take_succ_cons]
    have ih := may_l1 t i c F R ht hi hc hnext d (j + 1) k (by omega) (by omega) (by omega)
    rw [rhzref1_MayName.l1, wrap_add (a := i) (b := c) (by omega) (by omega), mk_size, e, List.all_cons, if_pos (by omega), decide_eq_true (by omega), rhzref1_MayName.j2, if_pos rfl, mk_size, if_pos (by omega), if_pos (by omega), mk_bt t j hlt, wrap_succ (a := j) (by omega), ih]
    generalize t[j] = x
    by_cases h1 : 65 ≤ x.toNat
    · rw [if_pos (by omega)]
      by_cases h2 : x.toNat ≤ 90
      · have : lowc x = false := decide_eq_false (by omega)
        rw [if_pos (by omega), this]; rfl
      · have : lowc x = true := decide_eq_true (by omega)
        rw [if_neg (by omega), this]; rfl
    · have : lowc x = true := decide_eq_true (by omega)
      rw [if_neg (by omega), this]; rfl
theorem may_l0 (t : T) (ht : t.length ≤ 2000) : ∀ (n i k : Nat), t.length - i < n → i ≤ 3000 → 600 * n + 3000 ≤ k → rhzref1_MayName.l0 k (mk t) (i : Int) = some (mayC n (t.drop i) && (endC (t.length + 1) t 0 == (t.length : Int)))
  | 0, _, _, h, _, _ => by omega
  | n + 1, i, k, h, hi, hk => by
    obtain ⟨k, rfl⟩ : ∃ m, k = m + 1 := ⟨k - 1, by omega⟩
    rw [rhzref1_MayName.l0, mk_size]
    by_cases hlt : i < t.length
    · have hc := t[i].toNat_lt
      rw [if_pos (by omega), if_pos (by omega), bt_lt t i hlt, wrap_succ (a := i) (by omega), List.drop_eq_getElem_cons hlt, mayC]
      refine Eq.trans (may_l1 t i t[i].toNat (600 * n + 3000) (mayC n (t.drop (i + (t[i].toNat + 1))) && (endC (t.length + 1) t 0 == (t.length : Int))) ht (by omega) (by omega) (fun k hk => ?_) (min (i + t[i].toNat + 1) t.length - (i + 1)) (i + 1) k rfl (by omega) (by omega)) ?_
      · exact may_l0 t ht n _ k (by omega) (by omega) hk
      · rw [show i + t[i].toNat + 1 - (i + 1) = t[i].toNat from by omega, List.drop_drop, show i + 1 + t[i].toNat = i + (t[i].toNat + 1) from by omega, Bool.and_assoc]
    · rw [if_neg (by omega), end_ref t k ht (by omega), List.drop_eq_nil_of_le (by omega)]; simp only [Option.bind_some]
      rw [mayC_nil, Bool.true_and]
theorem may1_ref (t : T) (k : Nat) (ht : t.length ≤ 2000) (hk : 1210000 ≤ k) : rhzref1_MayName.f k (mk t) = some (nm t).isSome := by
  rw [nm_may]
  exact may_l0 t ht (t.length + 1) 0 k (by omega) (by omega) (by omega)
theorem bt_mid (p s : T) (c : UInt8) : bt (mk (p ++ c :: s)) (p.length : Int) = (c.toNat : Int) := by
  rw [mk_bt _ p.length (by simp)]; simp
theorem ext_mid (p y s : T) (c : UInt8) : (mk (p ++ c :: (y ++ s))).extract (p.length + 1) (p.length + 1 + y.length) = mk y := by
  rw [mk_extract]
  congr 1
  rw [show p ++ c :: (y ++ s) = (p ++ [c]) ++ (y ++ s) from by simp, List.drop_take, show p.length + 1 = (p ++ [c]).length from by simp, List.drop_left, show (p ++ [c]).length + y.length - (p ++ [c]).length = y.length from by omega, List.take_left]
theorem labels_l0 : ∀ (ys xs : List T) (k : Nat), Nm (xs ++ ys) → ys.length < k → rhzref1_Labels.l0 k (mk (enc (xs ++ ys))) (xs.map mk) ((xs.flatMap enc1).length : Int) = some ((xs ++ ys).map mk)
  | [], xs, k, hN, hk => by
    obtain ⟨k, rfl⟩ : ∃ m, k = m + 1 := ⟨k - 1, by omega⟩
    rw [List.append_nil]
    have e : enc xs = xs.flatMap enc1 ++ (0 : UInt8) :: [] := rfl
    rw [rhzref1_Labels.l0, e, mk_size, bt_mid, if_pos (by omega), if_pos (by simp; omega), if_pos (by decide)]
  | y :: ys, xs, k, hN, hk => by
    obtain ⟨k, rfl⟩ : ∃ m, k = m + 1 := ⟨k - 1, by omega⟩
    have hw := hN.1 y (by simp)
    have h255 := hN.2
    have e : enc (xs ++ y :: ys) = xs.flatMap enc1 ++ UInt8.ofNat y.length :: (y ++ enc ys) := by
      unfold enc; rw [List.flatMap_append, List.flatMap_cons]; simp [enc1]
    have hlen : (xs.flatMap enc1).length + 1 + y.length ≤ 254 := by
      rw [e, List.length_append, List.length_cons, List.length_append] at h255
      have := enc_len_pos ys
      omega
    have hcount : xs.length ≤ 254 := by have := labels_le (xs ++ y :: ys); rw [List.length_append] at this; omega
    have hy1 := hw.1
    have hy2 := hw.2.1
    have hb : ((UInt8.ofNat y.length).toNat : Int) = (y.length : Int) := by rw [ofNat_toNat (by omega)]
    have ih := labels_l0 ys (xs ++ [y]) k (by rw [List.append_assoc]; exact hN) (by simp at hk; omega)
    have e2 : ((xs ++ [y]).flatMap enc1).length = (xs.flatMap enc1).length + (y.length + 1) := by simp [enc1]
    rw [List.append_assoc, List.singleton_append, List.map_append, e2] at ih
    have hs : ((mk (enc (xs ++ y :: ys))).size : Int) = (((enc (xs ++ y :: ys)).length : Nat) : Int) := by rw [mk_size]
    have hl : (enc (xs ++ y :: ys)).length = (xs.flatMap enc1).length + 1 + y.length + (enc ys).length := by rw [e]; simp; omega
    have hp := enc_len_pos ys
    rw [rhzref1_Labels.l0, hs, e, bt_mid, hb, ← e, wrap_small (n := (y.length : Int)) (by omega) (by omega), wrap_succ (a := (xs.flatMap enc1).length) (by omega), wrap_add (a := (xs.flatMap enc1).length + 1) (by omega) (by omega), wrap_succ (a := y.length) (by omega), wrap_add (a := (xs.flatMap enc1).length) (b := y.length + 1) (by omega) (by omega), Int.toNat_natCast, Int.toNat_natCast]
    clear hs
    rw [if_pos (by omega), if_pos (by omega), if_neg (by omega), if_pos (by omega), if_pos (by omega), if_pos (by omega), if_pos (by rw [List.length_map]; omega)]
    have ex : (mk (enc (xs ++ y :: ys))).extract ((xs.flatMap enc1).length + 1) ((xs.flatMap enc1).length + 1 + y.length) = mk y := by rw [e]; exact ext_mid _ _ _ _
    rw [ex]
    exact ih
theorem labels1_ref {t : T} {ls : List T} (h : nm t = some ls) (k : Nat) (hk : 1210000 ≤ k) : rhzref1_Labels.f k (mk t) = some (ls.map mk) := by
  obtain ⟨hN, e⟩ := nm_some h
  have hl : t.length ≤ 2000 := by rw [e]; have := hN.2; omega
  have hc := Nm_count hN
  unfold rhzref1_Labels.f
  rw [may1_ref t k hl hk, h]; simp only [Option.bind_some, Option.isSome_some, if_true]
  have := labels_l0 ls [] k hN (by omega)
  rw [e]; exact this
theorem order_ref (x y : T) : rhzref1_order.f (mk x) (mk y) = some (cmpT x y) := cmpS_ref x y
theorem take_rev (x : List T) (i : Nat) (h : i + 1 ≤ x.length) : (x.take (x.length - i)).reverse = x[x.length - (i + 1)] :: (x.take (x.length - (i + 1))).reverse := by
  have hx1 : x.length - (i + 1) < x.length := by omega
  rw [show x.length - i = x.length - (i + 1) + 1 from by omega, List.take_succ_eq_append_getElem hx1, List.reverse_append, List.reverse_singleton, List.singleton_append]
theorem take_none (x : List T) (i : Nat) (h : x.length ≤ i) : (x.take (x.length - i)).reverse = [] := by rw [show x.length - i = 0 from by omega]; rfl
theorem cmp1_l0 (x y : List T) (hx : x.length ≤ 300) (hy : y.length ≤ 300) : ∀ (d i k : Nat), 300 - i = d → i ≤ 300 → 2 * d + 2 ≤ k → i ≤ x.length → i ≤ y.length →
    rhzref1_Compare.l0 k (x.map mk) (y.map mk) ((i + 1 : Nat) : Int) = some (cmpL (x.take (x.length - i)).reverse (y.take (y.length - i)).reverse) := by
  intro d
  induction d with
  | zero =>
    intro i k hd hi hk h1 h2
    obtain ⟨k, rfl⟩ : ∃ m, k = m + 2 := ⟨k - 2, by omega⟩
    rw [rhzref1_Compare.l0, List.length_map, List.length_map, if_neg (by omega), rhzref1_Compare.j3, if_neg (by decide), List.length_map, List.length_map, if_neg (by omega), if_neg (by omega), take_none x i (by omega), take_none y i (by omega)]; rfl
  | succ d ih =>
    intro i k hd hi hk h1 h2
    obtain ⟨k, rfl⟩ : ∃ m, k = m + 2 := ⟨k - 2, by omega⟩
    rw [rhzref1_Compare.l0, List.length_map, List.length_map]
    have out : ∀ q, rhzref1_Compare.j3 (q + 1) (x.map mk) (y.map mk) ((i + 1 : Nat) : Int) false = if x.length < y.length then some (-1) else if x.length > y.length then some 1 else some 0 := by
      intro q
      rw [rhzref1_Compare.j3, if_neg (by decide), List.length_map, List.length_map]
      by_cases h : x.length < y.length
      · rw [if_pos (by omega), if_pos h]
      · rw [if_neg (by omega), if_neg h]
        by_cases h' : x.length > y.length
        · rw [if_pos (by omega), if_pos h']
        · rw [if_neg (by omega), if_neg h']
    by_cases hxi : i + 1 ≤ x.length
    · rw [if_pos (by omega), take_rev x i hxi]
      by_cases hyi : i + 1 ≤ y.length
      · have hx1 : x.length - (i + 1) < x.length := by omega
        have hy1 : y.length - (i + 1) < y.length := by omega
        have hih := ih (i + 1) k (by omega) (by omega) (by omega) hxi hyi
        rw [decide_eq_true (by omega), take_rev y i hyi, rhzref1_Compare.j3, if_pos rfl, List.length_map, List.length_map, wrap_sub hxi (by omega), wrap_sub hyi (by omega), if_pos (Int.natCast_nonneg _), if_pos (Int.ofNat_lt.2 hx1), if_pos (Int.natCast_nonneg _), if_pos (Int.ofNat_lt.2 hy1), rdOf_map x _ hx1, rdOf_map y _ hy1, order_ref, wrap_succ (by omega), cmpL]
        simp only [Option.bind_some]
        by_cases h : cmpT x[x.length - (i + 1)] y[y.length - (i + 1)] = 0
        · rw [if_pos h, if_pos h]; exact hih
        · rw [if_neg h, if_neg h]
      · rw [decide_eq_false (by omega), take_none y i (by omega), out, if_neg (by omega), if_pos (by omega)]; rfl
    · rw [if_neg (by omega), take_none x i (by omega), out]
      by_cases hyi : i + 1 ≤ y.length
      · rw [take_rev y i hyi, if_pos (by omega)]; rfl
      · rw [take_none y i (by omega), if_neg (by omega), if_neg (by omega)]; rfl
theorem compare1_ref (a b : T) (k : Nat) (ha : a.length ≤ 2000) (hb : b.length ≤ 2000) (hk : 1220000 ≤ k) : rhzref1_Compare.f k (mk a) (mk b) = some (cmpN a b) := by
  unfold rhzref1_Compare.f cmpN
  rw [may1_ref a k ha (by omega), may1_ref b k hb (by omega)]; simp only [Option.bind_some]
  obtain ⟨k, rfl⟩ : ∃ m, k = m + 2 := ⟨k - 2, by omega⟩
  cases na : nm a with
  | none =>
    rw [Option.isSome_none]
    rw [if_neg (by decide), rhzref1_Compare.j0, if_neg (by decide)]
    cases nb : nm b with
    | none => rw [Option.isSome_none]; rw [if_neg (by decide), rhzref1_Compare.j1, if_neg (by decide), if_neg (by decide), order_ref]; rfl
    | some y => rw [Option.isSome_some]; rw [if_pos rfl, rhzref1_Compare.j1, if_pos (by decide)]
  | some x =>
    rw [Option.isSome_some]
    rw [if_pos rfl]
    cases nb : nm b with
    | none => rw [Option.isSome_none]; rw [rhzref1_Compare.j0, if_pos (by decide)]
    | some y =>
      have hx := Nm_count (nm_some na).1
      have hy := Nm_count (nm_some nb).1
      rw [Option.isSome_some]
      rw [rhzref1_Compare.j0, if_neg (by decide), if_pos rfl, rhzref1_Compare.j1, if_neg (by decide), if_pos rfl, labels1_ref na k (by omega), labels1_ref nb k (by omega)]
      simp only [Option.bind_some]
      have := cmp1_l0 x y (by omega) (by omega) 300 0 k (by omega) (by omega) (by omega) (by omega) (by omega)
      simpa using this
theorem under1_l0 (x y : List T) (hx : x.length ≤ 300) (hxy : y.length ≤ x.length) : ∀ (d i k : Nat), y.length - i = d → i ≤ y.length → d < k →
    rhzref1_Under.l0 k (x.map mk) (y.map mk) ((i + 1 : Nat) : Int) = some (decide ((y.take (y.length - i)).reverse <+: (x.take (x.length - i)).reverse)) := by
  intro d
  induction d with
  | zero =>
    intro i k hd hi hk
    obtain ⟨k, rfl⟩ : ∃ m, k = m + 1 := ⟨k - 1, by omega⟩
    rw [rhzref1_Under.l0, List.length_map, if_neg (by omega), take_none y i (by omega), decide_eq_true List.nil_prefix]
  | succ d ih =>
    intro i k hd hi hk
    obtain ⟨k, rfl⟩ : ∃ m, k = m + 1 := ⟨k - 1, by omega⟩
    have hx1 : x.length - (i + 1) < x.length := by omega
    have hy1 : y.length - (i + 1) < y.length := by omega
    have hxi : i + 1 ≤ x.length := by omega
    have hyi : i + 1 ≤ y.length := by omega
    have hih := ih (i + 1) k (by omega) (by omega) (by omega)
    rw [rhzref1_Under.l0, List.length_map, List.length_map, if_pos (by omega), wrap_sub hxi (by omega), wrap_sub hyi (by omega), if_pos (Int.natCast_nonneg _), if_pos (Int.ofNat_lt.2 hx1), if_pos (Int.natCast_nonneg _), if_pos (Int.ofNat_lt.2 hy1), rdOf_map x _ hx1, rdOf_map y _ hy1, mk_list, mk_list, wrap_succ (by omega), take_rev x i hxi, take_rev y i hyi, hih]
    by_cases h : x[x.length - (i + 1)] = y[y.length - (i + 1)]
    · rw [if_pos h, h]
      congr 1
      rw [decide_eq_decide, List.cons_prefix_cons]
      exact ⟨fun e => ⟨rfl, e⟩, fun e => e.2⟩
    · rw [if_neg h, decide_eq_false (fun e => h (List.cons_prefix_cons.1 e).1.symm)]
theorem under1_ref (n z : T) (k : Nat) (hn : n.length ≤ 2000) (hz : z.length ≤ 2000) (hk : 1220000 ≤ k) : rhzref1_Under.f k (mk n) (mk z) = some (under n z) := by
  unfold rhzref1_Under.f under
  rw [may1_ref n k hn (by omega), may1_ref z k hz (by omega)]; simp only [Option.bind_some]
  obtain ⟨k, rfl⟩ : ∃ m, k = m + 2 := ⟨k - 2, by omega⟩
  cases na : nm n with
  | none => rw [Option.isSome_none]; rw [if_neg (by decide), rhzref1_Under.j0, if_pos rfl]
  | some x =>
    rw [Option.isSome_some]
    rw [if_pos rfl, rhzref1_Under.j0]
    cases nb : nm z with
    | none => rw [Option.isSome_none]; rw [if_pos (by decide)]
    | some y =>
      have hx := Nm_count (nm_some na).1
      have hy := Nm_count (nm_some nb).1
      rw [Option.isSome_some]
      rw [if_neg (by decide), labels1_ref na _ (by omega), labels1_ref nb _ (by omega)]
      simp only [Option.bind_some, List.length_map]
      by_cases h : y.length > x.length
      · rw [if_pos (by omega), decide_eq_false (fun e => by have := e.length_le; omega)]
      · rw [if_neg (by omega)]
        have := under1_l0 x y (by omega) (by omega) y.length 0 (k + 1) (by omega) (by omega) (by omega)
        rw [Nat.sub_zero, Nat.sub_zero, List.take_length, List.take_length] at this
        refine Eq.trans this ?_
        congr 1
        rw [decide_eq_decide, List.reverse_prefix]
theorem parent1_ref (x : T) (xs : List T) (hN : Nm (x :: xs)) (k : Nat) (hk : 1210000 ≤ k) : rhzref1_Parent.f k (mk (enc (x :: xs))) = some (mk (enc xs), true) := by
  have h255 := hN.2
  have hw := hN.1 x (by simp)
  have hw1 := hw.1
  have hw2 := hw.2.1
  have e := enc_cons x xs
  have hl : (enc (x :: xs)).length = (enc xs).length + x.length + 1 := enc_len_cons x xs
  have hp := enc_len_pos xs
  have hb : bt (mk (enc (x :: xs))) 0 = (x.length : Int) := by
    have := bt_mid [] (x ++ enc xs) (UInt8.ofNat x.length)
    rw [List.nil_append, ← e, ofNat_toNat (by omega)] at this
    exact this
  unfold rhzref1_Parent.f
  rw [may1_ref _ k (by omega) hk, nm_enc hN]; simp only [Option.bind_some, Option.isSome_some, if_true]
  rw [hb, mk_list, if_neg (by rw [e]; intro h; injection h with h h2; have := congrArg UInt8.toNat h; rw [ofNat_toNat (by omega)] at this; have h0 : (0 : UInt8).toNat = 0 := rfl; omega), mk_size, if_pos (by omega)]
  clear hb
  have w : wrap64 (1 + wrap64 (x.length : Int)) = ((x.length + 1 : Nat) : Int) := by
    rw [wrap_small (n := (x.length : Int)) (by omega) (by omega), wrap_small (by omega) (by omega)]; omega
  rw [w, Int.toNat_natCast]
  clear w
  rw [if_pos (by omega), if_pos (by omega), mk_extract, List.take_length]
  have e3 : (enc (x :: xs)).drop (x.length + 1) = enc xs := by
    rw [e, List.drop_succ_cons, List.drop_left]
  rw [e3]
def foldC (o : Option (List T)) (m : T) : Option (List T) := o.bind fun x => (nm m).map fun y => comm x y
theorem common_fold (n : T) (more : List T) : common n more = ((more.foldl foldC (nm n)).map enc).getD [] := rfl
theorem fold_none (l : List T) : l.foldl foldC none = none := by
  induction l with
  | nil => rfl
  | cons y l ih => exact ih
theorem fold_bad : ∀ (more : List T) (o : Option (List T)) (m : T), m ∈ more → nm m = none → more.foldl foldC o = none
  | [], _, _, h, _ => by simp at h
  | y :: more, o, m, h, hm => by
    rw [List.foldl_cons]
    rcases List.mem_cons.1 h with rfl | h'
    · have : foldC o m = none := by unfold foldC; rw [hm]; cases o <;> rfl
      rw [this]; exact fold_none more
    · exact fold_bad more _ m h' hm
theorem fold_some : ∀ (more : List T) (ls : List T), (∀ m ∈ more, (nm m).isSome = true) →
    ∃ G, more.foldl foldC (some ls) = some G ∧ G <:+ ls ∧ (∀ m ∈ more, ∀ y, nm m = some y → G <:+ y) ∧ (∀ c, c <:+ ls → (∀ m ∈ more, ∀ y, nm m = some y → c <:+ y) → c <:+ G)
  | [], ls, _ => ⟨ls, rfl, List.suffix_refl _, by simp, fun c h _ => h⟩
  | m :: more, ls, h => by
    obtain ⟨y, hy⟩ := Option.isSome_iff_exists.1 (h m (by simp))
    obtain ⟨G, e, h1, h2, h3⟩ := fold_some more (comm ls y) (fun m hm => h m (by simp [hm]))
    refine ⟨G, ?_, h1.trans (comm_left _ _), ?_, ?_⟩
    · rw [List.foldl_cons, show foldC (some ls) m = some (comm ls y) from by unfold foldC; rw [hy]; rfl]; exact e
    · intro q hq z hz
      rcases List.mem_cons.1 hq with rfl | hq
      · rw [hy] at hz; injection hz with hz; rw [← hz]; exact h1.trans (comm_right _ _)
      · exact h2 q hq z hz
    · intro c hc hall
      exact h3 c (comm_max hc (hall m (by simp) y hy)) (fun q hq z hz => hall q (by simp [hq]) z hz)
theorem common1_l1 (more : List T) (hm : more.length ≤ 1000) (hnm : ∀ m ∈ more, (nm m).isSome = true) (G : List T) (hG : ∀ m ∈ more, ∀ y, nm m = some y → G <:+ y)
    (ls : List T) (hmax : ∀ c, c <:+ ls → (∀ m ∈ more, ∀ y, nm m = some y → c <:+ y) → c <:+ G) :
    ∀ (d : Nat) (cs : List T) (i k : Nat), cs.length * (more.length + 1) + (more.length - i) = d → Nm cs → G <:+ cs → cs <:+ ls → i ≤ more.length → (∀ j (h : j < more.length), j < i → ∀ y, nm more[j] = some y → cs <:+ y) → 1220000 + d < k →
    rhzref1_Common.l1 k (mk (enc cs)) (more.map mk) (i : Int) = some (mk (enc G)) := by
  intro d
  induction d using Nat.strongRecOn with
  | ind d ih =>
    intro cs i k hd hN hGc hcl hi hall hk
    obtain ⟨k, rfl⟩ : ∃ m, k = m + 1 := ⟨k - 1, by omega⟩
    have h255 := hN.2
    rw [rhzref1_Common.l1, List.length_map]
    by_cases hlt : i < more.length
    · obtain ⟨y, hy⟩ := Option.isSome_iff_exists.1 (hnm more[i] (List.getElem_mem hlt))
      have hy255 : more[i].length ≤ 255 := by rw [(nm_some hy).2]; exact (nm_some hy).1.2
      rw [if_pos (by omega), if_pos (by omega), rdOf_map more i hlt, under1_ref _ _ k (by omega) (by omega) (by omega)]
      simp only [Option.bind_some]
      have hu : under more[i] (enc cs) = decide (cs <:+ y) := by unfold under; rw [hy, nm_enc hN]
      rw [hu]
      by_cases hs : cs <:+ y
      · rw [decide_eq_true hs, if_pos rfl, wrap_succ (a := i) (by omega)]
        refine ih (cs.length * (more.length + 1) + (more.length - (i + 1))) (by omega) cs (i + 1) k rfl hN hGc hcl (by omega) ?_ (by omega)
        intro j h hj z hz
        by_cases hji : j < i
        · exact hall j h hji z hz
        · obtain rfl : j = i := by omega
          rw [hy] at hz; injection hz with hz; rw [← hz]; exact hs
      · rw [decide_eq_false hs, if_neg (by decide)]
        cases cs with
        | nil => exact absurd List.nil_suffix hs
        | cons x xs =>
          rw [parent1_ref x xs hN k (by omega)]
          simp only [Option.bind_some]
          have hG' : G <:+ xs := by
            rcases List.suffix_cons_iff.1 hGc with h | h
            · exact absurd (h ▸ hG more[i] (List.getElem_mem hlt) y hy) hs
            · exact h
          have hmul : (x :: xs).length * (more.length + 1) = xs.length * (more.length + 1) + (more.length + 1) := by rw [List.length_cons, Nat.add_mul, Nat.one_mul]
          exact ih (xs.length * (more.length + 1) + (more.length - 0)) (by omega) xs 0 k rfl (Nm_tail hN) hG' ((List.suffix_cons x xs).trans hcl) (by omega) (fun j h hj => absurd hj (by omega)) (by omega)
    · rw [if_neg (by omega)]
      have hcG : cs <:+ G := hmax cs hcl (fun m hm y hy => by
        obtain ⟨j, h, rfl⟩ := List.getElem_of_mem hm
        exact hall j h (by omega) y hy)
      rw [hcG.eq_of_length_le hGc.length_le]
theorem common1_l0 (n : T) (more : List T) (hn : n.length ≤ 2000) (hm : more.length ≤ 1000) (hml : ∀ m ∈ more, m.length ≤ 2000) : ∀ (d i k : Nat), more.length - i = d → i ≤ more.length → (∀ j (h : j < more.length), j < i → (nm more[j]).isSome = true) → 1220000 + 300001 + d < k →
    rhzref1_Common.l0 k (mk n) (more.map mk) (i : Int) = some (mk (common n more)) := by
  intro d
  induction d with
  | zero =>
    intro i k hd hi hall hk
    obtain ⟨k, rfl⟩ : ∃ m, k = m + 1 := ⟨k - 1, by omega⟩
    rw [rhzref1_Common.l0, List.length_map, if_neg (by omega), may1_ref n k hn (by omega)]
    simp only [Option.bind_some]
    have hall' : ∀ m ∈ more, (nm m).isSome = true := fun m hm => by
      obtain ⟨j, h, rfl⟩ := List.getElem_of_mem hm
      exact hall j h (by omega)
    rw [common_fold]
    cases h : nm n with
    | none => rw [fold_none, Option.isSome_none, if_neg (by decide)]; rfl
    | some ls =>
      obtain ⟨G, e, h1, h2, h3⟩ := fold_some more ls hall'
      obtain ⟨hN, hne⟩ := nm_some h
      have hc := Nm_count hN
      rw [e, Option.isSome_some, if_pos rfl, hne]
      have hmul : ls.length * (more.length + 1) ≤ 254 * 1001 := Nat.mul_le_mul (by omega) (by omega)
      have hi' : ∀ k, 1220000 + 300000 < k → rhzref1_Common.l1 k (mk (enc ls)) (more.map mk) ((0 : Nat) : Int) = some (mk (enc G)) := fun k hk => by
        exact common1_l1 more hm hall' G h2 ls h3 _ ls 0 k rfl hN h1 (List.suffix_refl _) (by omega) (fun j h hj => absurd hj (by omega)) (by omega)
      exact hi' k (by omega)
  | succ d ih =>
    intro i k hd hi hall hk
    obtain ⟨k, rfl⟩ : ∃ m, k = m + 1 := ⟨k - 1, by omega⟩
    have hlt : i < more.length := by omega
    rw [rhzref1_Common.l0, List.length_map, if_pos (by omega), if_pos (by omega), rdOf_map more i hlt, may1_ref _ k (hml _ (List.getElem_mem hlt)) (by omega)]
    simp only [Option.bind_some]
    by_cases h : (nm more[i]).isSome = true
    · rw [if_pos h, wrap_succ (a := i) (by omega)]
      refine ih (i + 1) k (by omega) (by omega) (fun j hj hji => ?_) (by omega)
      by_cases h' : j < i
      · exact hall j hj h'
      · obtain rfl : j = i := by omega
        exact h
    · rw [if_neg h, common_fold, fold_bad more _ more[i] (List.getElem_mem hlt) (by simpa using h)]; rfl
theorem common1_ref (n : T) (more : List T) (k : Nat) (hn : n.length ≤ 2000) (hm : more.length ≤ 1000) (hml : ∀ m ∈ more, m.length ≤ 2000) (hk : 1600000 ≤ k) : rhzref1_Common.f k (mk n) (more.map mk) = some (mk (common n more)) :=
  common1_l0 n more hn hm hml more.length 0 k (by omega) (by omega) (fun j h hj => absurd hj (by omega)) (by omega)
end Go.Proofs.Ytoocmjdnboldhaa.Nl
