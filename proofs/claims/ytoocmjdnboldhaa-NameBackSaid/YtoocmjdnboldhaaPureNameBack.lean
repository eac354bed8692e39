/- NameBack: what is written of a name is read as that name, and its labels join to it; what is read is a name whatever the letters' size. Texts past 2000 bytes are left out by the law itself; no other condition. -/
import Derived.Test.YtoocmjdnboldhaaNmPNameBack
namespace Go.Proofs.Ytoocmjdnboldhaa.Pure
open Go.RowKit Go.Proofs.Ytoocmjdnboldhaa.PNameBack Go.Proofs.YtoocmjdnboldhaaW.PrintWords Go.Proofs.YtoocmjdnboldhaaW.PrintLast Go.Proofs.Ytoocmjdnboldhaa.Nl
set_option linter.unusedVariables false
set_option linter.unusedSimpArgs false
theorem back_j1 (t : T) (k : Nat) (ht : t.length ≤ 2000) (hk : 9000 ≤ k) : rhzlaw2_NameBack.j1 k (mk t) = some true := by
  obtain ⟨k, rfl⟩ : ∃ m, k = m + 1 := ⟨k - 1, by omega⟩
  rw [rhzlaw2_NameBack.j1, parse_ref t k (by omega) (by omega)]
  simp only [Option.bind_some]
  rw [first_ref k (by omega)]
  simp only [Option.bind_some, if_true]
  by_cases h : (parseS t).2 = 0
  · rw [if_pos h, lower_ref t (by omega)]
    simp only [Option.bind_some]
    rw [parse_ref (lowT t) k (by rw [lowT_len]; omega) (by rw [lowT_len]; omega)]
    simp only [Option.bind_some]
    obtain ⟨ls, hls⟩ := parse_ok h
    rw [may_ref _ k (by omega), hls, parse_low]
    simp only [Option.bind_some, Option.isSome_some, if_true]
    rw [if_pos h, beq_self_eq_true]
  · rw [if_neg h, parse_bad h, mk_list]; rfl
theorem back_j0 (n t : T) (k : Nat) (ht : t.length ≤ 2000) (hk : 9001 ≤ k) : rhzlaw2_NameBack.j0 k (mk n) (mk t) false = some true := by
  obtain ⟨k, rfl⟩ : ∃ m, k = m + 1 := ⟨k - 1, by omega⟩
  rw [rhzlaw2_NameBack.j0, if_neg (by decide), print_ref n k (by omega)]
  simp only [Option.bind_some]
  rw [may_ref n k (by omega)]
  simp only [Option.bind_some]
  have hok := printS_ok n
  cases h : nm n with
  | none =>
    have h2 : ¬ (printS n).2 = 0 := by rw [hok, h]; decide
    rw [if_neg (by rw [beq_false_of_ne h2]; decide), if_neg h2]
    exact back_j1 t k ht (by omega)
  | some ls =>
    have h2 : (printS n).2 = 0 := by rw [hok, h]; rfl
    obtain ⟨hN, hn⟩ := nm_some h
    have hlen := printS_len n
    rw [if_neg (by rw [h2]; simp), if_pos h2, parse_ref _ k (by omega) (by omega)]
    simp only [Option.bind_some]
    have hle := labels_le ls
    have h255 := hN.2
    rw [labels_ref n k (by omega), spl_some h]
    simp only [Option.bind_some]
    rw [join_ref ls k (by omega) (by omega) (by omega), join_wf hN, print_parse h]
    have hlow : lowT n = n := by
      have := join_wf hN
      rw [hn]
      rw [enc_low (fun x hx => (hN.1 x hx).2.1)]
      congr 1
      have hm : ls.map lowT = ls.map id := List.map_congr_left (fun x hx => (hN.1 x hx).2.2)
      rw [hm, List.map_id]
    simp only [Option.bind_some, mk_list, if_true]
    have hl : n.length ≤ 255 := by rw [hn]; exact h255
    rw [if_pos hn.symm, lower_ref n (by omega), hlow]
    simp only [Option.bind_some, mk_list, if_true]
    exact back_j1 t k ht (by omega)
theorem NameBack : rhzlaw2_NameBack.Pure := by
  intro a b _ _
  obtain ⟨n, rfl⟩ := mk_eq a
  obtain ⟨t, rfl⟩ := mk_eq b
  refine ⟨9001, ?_⟩
  unfold rhzlaw2_NameBack.f
  rw [first_ref 9001 (by omega)]
  simp only [Option.bind_some, if_true]
  have skip : rhzlaw2_NameBack.j0 9001 (mk n) (mk t) true = some true := by
    rw [rhzlaw2_NameBack.j0, if_pos rfl, first_ref 9000 (by omega)]; rfl
  by_cases h1 : ((mk n).size : Int) > 2000
  · rw [if_pos h1]; exact skip
  · rw [if_neg h1]
    by_cases h2 : ((mk t).size : Int) > 2000
    · rw [decide_eq_true h2]; exact skip
    · rw [decide_eq_false h2]; exact back_j0 n t 9001 (by rw [mk_size] at h2; omega) (by omega)
end Go.Proofs.Ytoocmjdnboldhaa.Pure
