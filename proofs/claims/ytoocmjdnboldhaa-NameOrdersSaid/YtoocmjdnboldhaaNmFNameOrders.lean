/- What the law's own word few (are texts few and short?) comes to, in plain words on lists of texts. -/
import Derived.Test.YtoocmjdnboldhaaNmBNameOrders
import Derived.Test.YtoocmjdnboldhaaNlP
namespace Go.Proofs.Ytoocmjdnboldhaa.Nl
open Go.RowKit Go.Proofs.Ytoocmjdnboldhaa.PNameOrders Go.Proofs.YtoocmjdnboldhaaW.PrintWords Go.Proofs.YtoocmjdnboldhaaW.PrintLast Go.Proofs.YtoocmjdnboldhaaW.PrintMore
set_option linter.unusedVariables false
set_option linter.unusedSimpArgs false
theorem mks (l : List ByteArray) : ∃ ls : List T, l = ls.map mk := ⟨l.map (fun x => x.data.toList), by rw [List.map_map]; show l = l.map id; rw [List.map_id]⟩
theorem few_l0 (ls : List T) : ∀ (d i n k : Nat), i + d = 61 → n ≤ 2000 → i ≤ ls.length → 2 * d + 2 ≤ k → ∃ r, rhzlaw2_few.l0 k (ls.map mk) (n : Int) (i : Int) = some r ∧ (r = true → ls.length ≤ 60 ∧ (enc (ls.drop i)).length + n ≤ 2000 + 1 + (ls.length - i))
  | 0, i, n, k, hi, hn, hl, hk => by
    obtain ⟨k, rfl⟩ : ∃ m, k = m + 2 := ⟨k - 2, by omega⟩
    rw [rhzlaw2_few.l0, List.length_map]
    have e : (if (i : Int) < (ls.length : Int) then rhzlaw2_few.j1 (k + 1) (ls.map mk) (n : Int) (i : Int) (decide ((i : Int) < 60)) else rhzlaw2_few.j1 (k + 1) (ls.map mk) (n : Int) (i : Int) false) = some (decide ((ls.length : Int) ≤ 60)) := by
      rw [decide_eq_false (p := (i : Int) < 60) (by omega), ite_self, rhzlaw2_few.j1, if_neg (by decide), List.length_map]
    rw [e]
    exact ⟨_, rfl, fun h => absurd (of_decide_eq_true h) (by omega)⟩
  | d + 1, i, n, k, hi, hn, hl, hk => by
    obtain ⟨k, rfl⟩ : ∃ m, k = m + 2 := ⟨k - 2, by omega⟩
    rw [rhzlaw2_few.l0, List.length_map]
    by_cases hlt : i < ls.length
    · rw [if_pos (by omega)]
      by_cases h60 : i < 60
      · have hd : ls.drop i = ls[i] :: ls.drop (i + 1) := List.drop_eq_getElem_cons hlt
        have hm : mn ((ls[i].length : Nat) : Int) 2001 = ((min ls[i].length 2001 : Nat) : Int) := by unfold mn; split <;> omega
        rw [decide_eq_true (by omega), rhzlaw2_few.j1, if_pos rfl, if_pos (by omega), List.length_map, if_pos (by omega), rdOf_map ls i hlt, mk_size, hm, wrap_add (a := n) (by omega) (by omega), wrap_succ (a := i) (by omega)]
        clear hm
        by_cases h2 : n + min ls[i].length 2001 > 2000
        · rw [if_pos (by omega)]; exact ⟨false, rfl, fun h => by cases h⟩
        · rw [if_neg (by omega)]
          obtain ⟨r, e, hr⟩ := few_l0 ls d (i + 1) (n + min ls[i].length 2001) k (by omega) (by omega) (by omega) (by omega)
          refine ⟨r, e, fun h => ?_⟩
          have := hr h
          rw [hd, enc_len_cons]
          omega
      · rw [decide_eq_false (by omega), rhzlaw2_few.j1, if_neg (by decide), List.length_map]
        exact ⟨_, rfl, fun h => absurd (of_decide_eq_true h) (by omega)⟩
    · rw [if_neg (by omega), rhzlaw2_few.j1, if_neg (by decide), List.length_map]
      refine ⟨_, rfl, fun h => ⟨by have := of_decide_eq_true h; omega, ?_⟩⟩
      rw [List.drop_eq_nil_of_le (by omega), enc_nil]; show 1 + n ≤ _; omega
theorem few_ref (ls : List T) (k : Nat) (hk : 200 ≤ k) : ∃ r, rhzlaw2_few.f k (ls.map mk) = some r ∧ (r = true → ls.length ≤ 60 ∧ (enc ls).length ≤ 2001 + ls.length) := by
  obtain ⟨r, e, hr⟩ := few_l0 ls 61 0 0 k (by omega) (by omega) (by omega) (by omega)
  refine ⟨r, e, fun h => ?_⟩
  have := hr h
  rw [List.drop_zero] at this
  omega
theorem first_true_ : rhzlaw2_first.f 300 = some true := by decide +kernel
theorem first_k (k : Nat) (hk : 300 ≤ k) : rhzlaw2_first.f k = some true := by
  obtain ⟨d, rfl⟩ := Nat.le.dest hk
  induction d with
  | zero => exact first_true_
  | succ d ih => exact rhzlaw2_first.mono (300 + d) _ (ih (by omega))
end Go.Proofs.Ytoocmjdnboldhaa.Nl
