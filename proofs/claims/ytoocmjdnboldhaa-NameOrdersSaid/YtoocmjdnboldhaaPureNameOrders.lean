/- NameOrders: the order of two names, is one under the other, what many have in common: each as the plain second writing of them tells it. Texts past 2000 bytes and lists past 60 are left out by the law itself; no other condition. -/
import Derived.Test.YtoocmjdnboldhaaNmRNameOrders
import Derived.Test.YtoocmjdnboldhaaNmFNameOrders
namespace Go.Proofs.Ytoocmjdnboldhaa.Pure
open Go.RowKit Go.Proofs.Ytoocmjdnboldhaa.PNameOrders Go.Proofs.YtoocmjdnboldhaaW.PrintWords Go.Proofs.YtoocmjdnboldhaaW.PrintLast Go.Proofs.YtoocmjdnboldhaaW.PrintMore Go.Proofs.Ytoocmjdnboldhaa.Nl
set_option linter.unusedVariables false
set_option linter.unusedSimpArgs false
theorem enc_mem : ∀ (ls : List T) (x : T), x ∈ ls → x.length + ls.length + 1 ≤ (enc ls).length
  | [], _, h => by simp at h
  | y :: ls, x, h => by
    rw [enc_len_cons, List.length_cons]
    rcases List.mem_cons.1 h with rfl | h
    · have := labels_le ls; omega
    · have := enc_mem ls x h; omega
theorem NameOrders : ∀ (a0 a1 : ByteArray) (l2 : List ByteArray), ∃ k, rhzlaw2_NameOrders.f k a0 a1 l2 = some true := by
  intro a0 a1 l2
  obtain ⟨a, rfl⟩ := mk_eq a0
  obtain ⟨b, rfl⟩ := mk_eq a1
  obtain ⟨ls, rfl⟩ := mks l2
  obtain ⟨k, hk⟩ : ∃ k : Nat, k = 2000000 := ⟨_, rfl⟩
  refine ⟨k + 1, ?_⟩
  unfold rhzlaw2_NameOrders.f
  rw [first_k (k + 1) (by omega)]
  simp only [Option.bind_some, if_true]
  have skip : rhzlaw2_NameOrders.j0 (k + 1) (mk a) (mk b) (ls.map mk) true = some true := by
    rw [rhzlaw2_NameOrders.j0, if_pos rfl, first_k k (by omega)]; rfl
  by_cases h1 : ((mk a).size : Int) > 2000
  · rw [if_pos h1]; exact skip
  rw [if_neg h1]
  by_cases h2 : ((mk b).size : Int) > 2000
  · rw [if_pos h2]; exact skip
  rw [if_neg h2]
  obtain ⟨r, e, hr⟩ := few_ref ls (k + 1) (by omega)
  rw [e]
  simp only [Option.bind_some]
  cases r with
  | false => exact skip
  | true =>
    obtain ⟨hl, he⟩ := hr rfl
    rw [mk_size] at h1 h2
    have hm : ∀ m ∈ ls, m.length ≤ 2000 := fun m hm => by
      have := enc_mem ls m hm
      omega
    show rhzlaw2_NameOrders.j0 (k + 1) (mk a) (mk b) (ls.map mk) false = some true
    rw [rhzlaw2_NameOrders.j0, if_neg (by decide), first_k k (by omega)]
    simp only [Option.bind_some, if_true]
    rw [compare_ref a b k (by omega)]
    simp only [Option.bind_some]
    rw [compare1_ref a b k (by omega) (by omega) (by omega)]
    simp only [Option.bind_some, if_true]
    rw [under_ref a b k (by omega)]
    simp only [Option.bind_some]
    rw [under1_ref a b k (by omega) (by omega) (by omega)]
    simp only [Option.bind_some]
    rw [if_pos (beq_self_eq_true _), common_ref a ls (by omega) k (by omega)]
    simp only [Option.bind_some]
    rw [common1_ref a ls k (by omega) (by omega) hm (by omega)]
    simp only [Option.bind_some]
    rw [beq_self_eq_true]
end Go.Proofs.Ytoocmjdnboldhaa.Pure
