/- NameParts: two lists of labels joined: too long it is none, else it is the first's name without its root ahead of the second's, under the second, and its labels are as many as both's. Lists past 60 texts or 2000 bytes are left out by the law itself; no other condition. -/
import Derived.Test.YtoocmjdnboldhaaNmPNameParts
import Derived.Test.YtoocmjdnboldhaaNmUNameParts
namespace Go.Proofs.Ytoocmjdnboldhaa.Pure
open Go.RowKit Go.Proofs.Ytoocmjdnboldhaa.PNameParts Go.Proofs.YtoocmjdnboldhaaW.PrintWords Go.Proofs.YtoocmjdnboldhaaW.PrintLast Go.Proofs.YtoocmjdnboldhaaW.PrintMore Go.Proofs.Ytoocmjdnboldhaa.Nl
set_option linter.unusedVariables false
set_option linter.unusedSimpArgs false
theorem mks (l : List ByteArray) : ∃ ls : List T, l = ls.map mk := ⟨l.map (fun x => x.data.toList), by rw [List.map_map]; show l = l.map id; rw [List.map_id]⟩
theorem few_l0 (ls : List T) : ∀ (d i n k : Nat), i + d = 61 → n ≤ 2000 → i ≤ ls.length → 2 * d + 2 ≤ k → ∃ r, rhzlaw2_few.l0 k (ls.map mk) (n : Int) (i : Int) = some r ∧ (r = true → ls.length ≤ 60 ∧ (enc (ls.drop i)).length + n ≤ 2000 + 1 + (ls.length - i))
  | 0, i, n, k, hi, hn, hl, hk => by
    obtain ⟨k, rfl⟩ : ∃ m, k = m + 2 := ⟨k - 2, by omega⟩
    rw [rhzlaw2_few.l0, List.length_map]
    have e : (if (i : Int) < (ls.length : Int) then rhzlaw2_few.j1 (k + 1) (ls.map mk) (n : Int) (i : Int) (decide ((i : Int) < 60)) else rhzlaw2_few.j1 (k + 1) (ls.map mk) (n : Int) (i : Int) false) = some (decide ((ls.length : Int) ≤ 60)) := by
      rw [decide_eq_false (p := (i : Int) < 60) (by omega), ite_self, rhzlaw2_few.j1, if_neg (by decide), List.length_map]
    rw [e]
    exact ⟨_, rfl, fun h => absurd (of_decide_eq_true h) (by omega)⟩
  | d + 1, i, n, k, hi, hn, hl, hk => by
    obtain ⟨k, rfl⟩ : ∃ m, k = m + 2 := ⟨k - 2, by omega⟩
    rw [rhzlaw2_few.l0, List.length_map]
    by_cases hlt : i < ls.length
    · rw [if_pos (by omega)]
      by_cases h60 : i < 60
      · have hd : ls.drop i = ls[i] :: ls.drop (i + 1) := List.drop_eq_getElem_cons hlt
        have hm : mn ((ls[i].length : Nat) : Int) 2001 = ((min ls[i].length 2001 : Nat) : Int) := by unfold mn; split <;> omega
        rw [decide_eq_true (by omega), rhzlaw2_few.j1, if_pos rfl, if_pos (by omega), List.length_map, if_pos (by omega), rdOf_map ls i hlt, mk_size, hm, wrap_add (a := n) (by omega) (by omega), wrap_succ (a := i) (by omega)]
        clear hm
        by_cases h2 : n + min ls[i].length 2001 > 2000
        · rw [if_pos (by omega)]; exact ⟨false, rfl, fun h => by cases h⟩
        · rw [if_neg (by omega)]
          obtain ⟨r, e, hr⟩ := few_l0 ls d (i + 1) (n + min ls[i].length 2001) k (by omega) (by omega) (by omega) (by omega)
          refine ⟨r, e, fun h => ?_⟩
          have := hr h
          rw [hd, enc_len_cons]
          omega
      · rw [decide_eq_false (by omega), rhzlaw2_few.j1, if_neg (by decide), List.length_map]
        exact ⟨_, rfl, fun h => absurd (of_decide_eq_true h) (by omega)⟩
    · rw [if_neg (by omega), rhzlaw2_few.j1, if_neg (by decide), List.length_map]
      refine ⟨_, rfl, fun h => ⟨by have := of_decide_eq_true h; omega, ?_⟩⟩
      rw [List.drop_eq_nil_of_le (by omega), enc_nil]; show 1 + n ≤ _; omega
theorem few_ref (ls : List T) (k : Nat) (hk : 200 ≤ k) : ∃ r, rhzlaw2_few.f k (ls.map mk) = some r ∧ (r = true → ls.length ≤ 60 ∧ (enc ls).length ≤ 2001 + ls.length) := by
  obtain ⟨r, e, hr⟩ := few_l0 ls 61 0 0 k (by omega) (by omega) (by omega) (by omega)
  refine ⟨r, e, fun h => ?_⟩
  have := hr h
  rw [List.drop_zero] at this
  omega
theorem enc_both (a b : List T) : enc (a ++ b) = (enc a).take ((enc a).length - 1) ++ enc b := by
  have : (enc a).take ((enc a).length - 1) = a.flatMap enc1 := by unfold enc; rw [List.length_append, show ([0] : T).length = 1 from rfl, Nat.add_sub_cancel, List.take_left]
  rw [this]; unfold enc; rw [List.flatMap_append, List.append_assoc]
theorem enc_both_len (a b : List T) : (enc (a ++ b)).length + 1 = (enc a).length + (enc b).length := by
  have := enc_len_pos a
  rw [enc_both, List.length_append, List.length_take]; omega
theorem join_zero (ls : List T) : (joinS ls).2 = 0 ↔ ls.find? bad = none ∧ (enc ls).length ≤ 255 := by
  unfold joinS
  cases ls.find? bad with
  | some x => simp only; constructor
              · intro h; split at h <;> cases h
              · rintro ⟨h, _⟩; cases h
  | none => simp only; by_cases h : (enc ls).length > 255
            · rw [if_pos h]; constructor
              · intro h; cases h
              · rintro ⟨_, h'⟩; omega
            · rw [if_neg h]; exact ⟨fun _ => ⟨trivial, by omega⟩, fun _ => rfl⟩
theorem parts_zero (a b : List T) : ((joinS (a ++ b)).2 = 0) ↔ ((joinS a).2 = 0 ∧ (joinS b).2 = 0 ∧ (enc (a ++ b)).length ≤ 255) := by
  rw [join_zero, join_zero, join_zero, List.find?_append, Option.or_eq_none_iff]
  have := enc_both_len a b
  have := enc_len_pos a
  have := enc_len_pos b
  constructor
  · rintro ⟨⟨h1, h2⟩, h3⟩; exact ⟨⟨h1, by omega⟩, ⟨h2, by omega⟩, h3⟩
  · rintro ⟨⟨h1, _⟩, ⟨h2, _⟩, h3⟩; exact ⟨⟨h1, h2⟩, h3⟩
theorem parts_long (a b : List T) (ha : (joinS a).2 = 0) (hb : (joinS b).2 = 0) (h : (enc (a ++ b)).length > 255) : (joinS (a ++ b)).2 = 3 := by
  have h1 := (join_zero a).1 ha
  have h2 := (join_zero b).1 hb
  unfold joinS
  rw [List.find?_append, h1.1, h2.1]; simp only [Option.or_none]; rw [if_pos h]
theorem parts_ok (a b : List T) (h : (joinS (a ++ b)).2 = 0) : (joinS (a ++ b)).1 = (joinS a).1.take ((joinS a).1.length - 1) ++ (joinS b).1 ∧ under (joinS (a ++ b)).1 (joinS b).1 = true ∧ nm (joinS (a ++ b)).1 = some ((a ++ b).map lowT) := by
  obtain ⟨ha, hb, hl⟩ := (parts_zero a b).1 h
  obtain ⟨ea, na⟩ := join_ok ha
  obtain ⟨eb, nb⟩ := join_ok hb
  obtain ⟨ec, nc⟩ := join_ok h
  rw [ea, eb, ec]
  refine ⟨by rw [List.map_append]; exact enc_both _ _, ?_, nm_enc nc⟩
  unfold under; rw [nm_enc nc, nm_enc nb]
  simp
theorem j1_ok (a b : List T) (k : Nat) (hk : 2000 ≤ k) (ha : a.length ≤ 60) (hb : b.length ≤ 60) (v : Bool) (hv : v = true ↔ ¬ ((joinS a).2 = 0 ∧ (joinS b).2 = 0)) :
    rhzlaw2_NameParts.j1 k (a.map mk) (b.map mk) (mk (joinS a).1) (mk (joinS b).1) (mk (joinS (a ++ b)).1) (joinS (a ++ b)).2 v = some true := by
  obtain ⟨k, rfl⟩ : ∃ m, k = m + 1 := ⟨k - 1, by omega⟩
  rw [rhzlaw2_NameParts.j1, first_ref k (by omega)]
  simp only [Option.bind_some, if_true]
  have hz := parts_zero a b
  by_cases h : (joinS a).2 = 0 ∧ (joinS b).2 = 0
  · rw [if_neg (fun e => (hv.1 e) h)]
    obtain ⟨h1, h2⟩ := h
    have e1 := join_ok h1
    have e2 := join_ok h2
    have l1 : (joinS a).1.length = (enc a).length := by rw [e1.1]; exact enc_len_low a
    have l2 : (joinS b).1.length = (enc b).length := by rw [e2.1]; exact enc_len_low b
    have p1 := enc_len_pos a
    have p2 := enc_len_pos b
    have m1 := ((join_zero a).1 h1).2
    have m2 := ((join_zero b).1 h2).2
    have hlen := enc_both_len a b
    have hw : wrap64 (wrap64 (((mk (joinS a).1).size : Int) + ((mk (joinS b).1).size : Int)) - 1) = (((enc (a ++ b)).length : Nat) : Int) := by
      rw [mk_size, mk_size, l1, l2, wrap_add (by omega) (by omega), Nl.wrap_small (by omega) (by omega)]; omega
    rw [hw]
    clear hw
    by_cases h3 : (enc (a ++ b)).length > 255
    · rw [if_pos (by omega), parts_long a b h1 h2 h3]; rfl
    · rw [if_neg (by omega), if_pos (hz.2 ⟨h1, h2, by omega⟩)]
      obtain ⟨q1, q2, q3⟩ := parts_ok a b (hz.2 ⟨h1, h2, by omega⟩)
      have hs : wrap64 (((mk (joinS a).1).size : Int) - 1) = (((enc a).length - 1 : Nat) : Int) := by rw [mk_size, l1, Nl.wrap_small (by omega) (by omega)]; omega
      rw [hs]
      clear hs
      rw [Int.toNat_natCast, mk_extract, List.drop_zero, if_pos (by omega), if_pos (by rw [mk_size, l1]; omega), if_pos (by rw [mk_size, mk_size, List.length_take, l2]; omega)]
      have hc : mk ((joinS a).1.take ((enc a).length - 1)) ++ mk (joinS b).1 = mk (joinS (a ++ b)).1 := by
        rw [q1, l1]; apply ByteArray.ext; simp [mk]
      rw [hc, if_pos rfl, under_ref _ _ k (by omega), q2]
      simp only [Option.bind_some, if_true]
      rw [labels_ref _ k (by omega), spl_some q3]
      simp only [Option.bind_some]
      rw [wrap_add (by rw [List.length_map]; omega) (by rw [List.length_map]; omega)]
      simp
  · rw [if_pos (hv.2 h)]
    have : ¬ (joinS (a ++ b)).2 = 0 := fun e => h ⟨(hz.1 e).1, (hz.1 e).2.1⟩
    congr 1
    rw [bne_iff_ne]; exact this
theorem NameParts : ∀ l0 l1 : List ByteArray, ∃ k, rhzlaw2_NameParts.f k l0 l1 = some true := by
  intro l0 l1
  obtain ⟨a, rfl⟩ := mks l0
  obtain ⟨b, rfl⟩ := mks l1
  refine ⟨9001, ?_⟩
  unfold rhzlaw2_NameParts.f
  rw [first_ref 9001 (by omega)]
  simp only [Option.bind_some, if_true]
  have skip : rhzlaw2_NameParts.j0 9001 (a.map mk) (b.map mk) true = some true := by
    rw [rhzlaw2_NameParts.j0, if_pos rfl, first_ref 9000 (by omega)]; rfl
  obtain ⟨ra, ea, fa⟩ := few_ref a 9001 (by omega)
  obtain ⟨rb, eb, fb⟩ := few_ref b 9001 (by omega)
  rw [ea]
  simp only [Option.bind_some]
  cases ra with
  | false => rw [if_neg (by decide)]; exact skip
  | true =>
    rw [if_pos rfl, eb]
    simp only [Option.bind_some]
    cases rb with
    | false => exact skip
    | true =>
      obtain ⟨la, na⟩ := fa rfl
      obtain ⟨lb, nb⟩ := fb rfl
      have hb := enc_both_len a b
      show rhzlaw2_NameParts.j0 9001 (a.map mk) (b.map mk) false = some true
      rw [rhzlaw2_NameParts.j0, if_neg (by decide), join_ref a 9000 (by omega) (by omega) (by omega)]
      simp only [Option.bind_some]
      rw [join_ref b 9000 (by omega) (by omega) (by omega)]
      simp only [Option.bind_some]
      have hcp : rhzref_CopyTexts.f (a.map mk) = some (a.map mk) := by
        unfold rhzref_CopyTexts.f
        simp only [Option.bind_some, List.nil_append]
        rw [if_pos (by simp; omega)]
      rw [hcp]
      simp only [Option.bind_some]
      rw [if_pos (by simp; omega), ← List.map_append, join_ref (a ++ b) 9000 (by rw [List.length_append]; omega) (by omega) (by rw [List.length_append]; omega)]
      simp only [Option.bind_some]
      by_cases h1 : (joinS a).2 = 0
      · rw [if_pos h1]
        exact j1_ok a b 9000 (by omega) la lb _ (by rw [bne_iff_ne]; exact ⟨fun h e => h e.2, fun h e => h ⟨h1, e⟩⟩)
      · rw [if_neg h1]
        exact j1_ok a b 9000 (by omega) la lb _ ⟨fun _ e => h1 e.1, fun _ => rfl⟩
end Go.Proofs.Ytoocmjdnboldhaa.Pure
