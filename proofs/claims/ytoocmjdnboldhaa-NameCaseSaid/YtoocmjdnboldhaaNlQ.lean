/- Names as texts, more: great letters, the last point left out, each byte as three digits: all are read as the same name. -/
import Derived.Test.YtoocmjdnboldhaaNlP
namespace Go.Proofs.Ytoocmjdnboldhaa.Nl
set_option linter.unusedVariables false
set_option linter.unusedSimpArgs false
def upB (c : UInt8) : UInt8 := if 97 ≤ c.toNat ∧ c.toNat ≤ 122 then UInt8.ofNat (c.toNat - 32) else c
def upT (t : T) : T := t.map upB
def dg (c : UInt8) : T := [92, UInt8.ofNat (48 + c.toNat / 100), UInt8.ofNat (48 + c.toNat / 10 % 10), UInt8.ofNat (48 + c.toNat % 10)]
def dgL (x : T) : T := x.flatMap dg ++ [46]
def dgS (ls : List T) : T := ls.flatMap dgL
theorem up_nat (c : UInt8) : (upB c).toNat = if 97 ≤ c.toNat ∧ c.toNat ≤ 122 then c.toNat - 32 else c.toNat := by
  unfold upB
  by_cases h : 97 ≤ c.toNat ∧ c.toNat ≤ 122
  · rw [if_pos h, if_pos h, ofNat_toNat (by omega)]
  · rw [if_neg h, if_neg h]
theorem low_up (c : UInt8) : low (upB c) = low c := by
  rw [← UInt8.toNat_inj, low_nat, low_nat, up_nat]
  by_cases h : 97 ≤ c.toNat ∧ c.toNat ≤ 122
  · rw [if_pos h, if_pos (by omega), if_neg (by omega)]; omega
  · rw [if_neg h]
theorem lowT_up (t : T) : lowT (upT t) = lowT t := by
  unfold lowT upT; rw [List.map_map]; apply List.map_congr_left; intro c _; exact low_up c
theorem parse_up (t : T) : parseS (upT t) = parseS t := by rw [← parse_low, lowT_up, parse_low]
theorem read_dg (c : UInt8) (t : T) (ls : List T) (b : T) (n : Nat) (hn : (dg c ++ t).length < n) :
    ∃ m, t.length < m ∧ readS n (dg c ++ t) ls b = readS m t ls (b ++ [c]) := by
  obtain ⟨n, rfl⟩ : ∃ m, n = m + 1 := ⟨n - 1, by omega⟩
  unfold dg at hn ⊢
  simp only [List.cons_append, List.nil_append, List.length_cons] at hn ⊢
  refine ⟨n, by omega, ?_⟩
  rw [readS, if_neg (by decide), if_pos (by decide), esc_digits]; rfl
theorem read_dgs (x : T) : ∀ (t : T) (ls : List T) (b : T) (n : Nat), (x.flatMap dg ++ t).length < n →
    ∃ m, t.length < m ∧ readS n (x.flatMap dg ++ t) ls b = readS m t ls (b ++ x) := by
  induction x with
  | nil => intro t ls b n hn; exact ⟨n, hn, by simp⟩
  | cons c x ih =>
    intro t ls b n hn
    rw [List.flatMap_cons, List.append_assoc] at hn ⊢
    obtain ⟨m, hm, e⟩ := read_dg c (x.flatMap dg ++ t) ls b n hn
    obtain ⟨m', hm', e'⟩ := ih t ls (b ++ [c]) m hm
    exact ⟨m', hm', by rw [e, e']; simp⟩
theorem read_dgS (ls : List T) : ∀ (acc : List T) (n : Nat), (dgS ls).length < n → (∃ m, 0 < m ∧ readS n (dgS ls) acc [] = readS m [] (acc ++ ls) []) := by
  induction ls with
  | nil => intro acc n hn; exact ⟨n, by omega, by simp [dgS]⟩
  | cons x ls ih =>
    intro acc n hn
    have e : dgS (x :: ls) = x.flatMap dg ++ (46 :: dgS ls) := by simp [dgS, dgL]
    rw [e] at hn ⊢
    obtain ⟨m, hm, e1⟩ := read_dgs x (46 :: dgS ls) acc [] n hn
    obtain ⟨m, rfl⟩ : ∃ q, m = q + 1 := ⟨m - 1, by omega⟩
    rw [e1, readS, if_pos (by decide)]
    obtain ⟨q, hq, e2⟩ := ih (acc ++ [[] ++ x]) m (by simp at hm; omega)
    exact ⟨q, hq, by rw [e2]; simp⟩
theorem parse_by {n t : T} {ls : List T} (h : nm n = some ls) (hls : ls ≠ []) (ht : t ≠ [46]) (hr : readS (t.length + 1) t [] [] = some ls) : parseS t = (n, 0) := by
  obtain ⟨hN, hn⟩ := nm_some h
  have hni : ¬ ([] ∈ ls) := by intro hi; have := hN.1 [] hi; unfold Wf at this; simp at this
  unfold parseS
  rw [if_neg ht, hr]; simp only
  rw [if_neg hni, join_wf hN, ← hn]
theorem digits_parse {n : T} {ls : List T} (h : nm n = some ls) (hls : ls ≠ []) : parseS (dgS ls) = (n, 0) := by
  obtain ⟨hN, hn⟩ := nm_some h
  refine parse_by h hls ?_ ?_
  · cases ls with
    | nil => exact absurd rfl hls
    | cons x ls =>
      have hx := hN.1 x (by simp)
      cases x with
      | nil => unfold Wf at hx; simp at hx
      | cons c x => intro e; simp [dgS, dgL, dg] at e
  · obtain ⟨m, hm, e⟩ := read_dgS ls [] ((dgS ls).length + 1) (by omega)
    obtain ⟨m, rfl⟩ : ∃ q, m = q + 1 := ⟨m - 1, by omega⟩
    rw [e, readS, List.nil_append]
    simp only [if_true]
    rw [if_neg hls]
/-- Without its last point. -/
theorem read_short (ls : List T) : ∀ (acc : List T) (x : T) (n : Nat), x ≠ [] → (prS ls ++ x.flatMap pr).length < n → readS n (prS ls ++ x.flatMap pr) acc [] = some (acc ++ ls ++ [x]) := by
  induction ls with
  | nil =>
    intro acc x n hx hn
    have e : prS [] ++ x.flatMap pr = x.flatMap pr ++ [] := by simp [prS]
    rw [e] at hn ⊢
    obtain ⟨m, hm, e1⟩ := read_prs x [] acc [] n hn
    obtain ⟨m, rfl⟩ : ∃ q, m = q + 1 := ⟨m - 1, by simp at hm; omega⟩
    rw [e1, readS, List.nil_append, if_neg hx]; simp
  | cons y ls ih =>
    intro acc x n hx hn
    have e : prS (y :: ls) ++ x.flatMap pr = y.flatMap pr ++ (46 :: (prS ls ++ x.flatMap pr)) := by simp [prS, prL]
    rw [e] at hn ⊢
    obtain ⟨m, hm, e1⟩ := read_prs y (46 :: (prS ls ++ x.flatMap pr)) acc [] n hn
    obtain ⟨m, rfl⟩ : ∃ q, m = q + 1 := ⟨m - 1, by omega⟩
    rw [e1, readS, if_pos (by decide), ih (acc ++ [[] ++ y]) x m hx (by simp only [List.length_cons] at hm; omega)]; simp
theorem prS_last (ls : List T) (x : T) : prS (ls ++ [x]) = prS ls ++ x.flatMap pr ++ [46] := by
  unfold prS; rw [List.flatMap_append]; simp [prL]
theorem short_parse {n : T} {ls : List T} (h : nm n = some ls) (hls : ls ≠ []) : 2 ≤ (prS ls).length ∧ (prS ls)[(prS ls).length - 1]? = some 46 ∧ parseS ((prS ls).take ((prS ls).length - 1)) = (n, 0) := by
  obtain ⟨hN, hn⟩ := nm_some h
  obtain ⟨l, x, rfl⟩ : ∃ l x, ls = l ++ [x] := ⟨ls.dropLast, ls.getLast hls, (List.dropLast_concat_getLast hls).symm⟩
  have hx := (hN.1 x (by simp)).1
  have hx0 : x ≠ [] := by rintro rfl; simp at hx
  have e := prS_last l x
  have hlen : (prS (l ++ [x])).length = (prS l ++ x.flatMap pr).length + 1 := by rw [e]; simp; omega
  have htake : (prS (l ++ [x])).take ((prS (l ++ [x])).length - 1) = prS l ++ x.flatMap pr := by
    rw [hlen, Nat.add_sub_cancel, e, List.take_left]
  have hp : 1 ≤ (x.flatMap pr).length := by
    cases x with
    | nil => exact absurd rfl hx0
    | cons c x =>
      have := (pr_ne c).1
      have : 0 < (pr c).length := List.length_pos_iff.2 this
      rw [List.flatMap_cons, List.length_append]; omega
  refine ⟨by rw [hlen, List.length_append]; omega, ?_, ?_⟩
  · rw [hlen, Nat.add_sub_cancel, e, List.getElem?_append_right (Nat.le_refl _), Nat.sub_self]; rfl
  · rw [htake]
    refine parse_by h hls ?_ ?_
    · have hhead : ∀ y : T, y ≠ [] → ∀ r, y.flatMap pr ++ r ≠ [46] := by
        intro y hy r
        cases y with
        | nil => exact absurd rfl hy
        | cons c y =>
          obtain ⟨h1, h2⟩ := pr_ne c
          cases hpc : pr c with
          | nil => exact absurd hpc h1
          | cons d q =>
            rw [hpc] at h2
            simp only [List.flatMap_cons, hpc, List.cons_append]
            intro e; injection e with e1 e2; rw [e1] at h2; exact h2 rfl
      cases l with
      | nil =>
        have := hhead x hx0 []
        rw [List.append_nil] at this
        simpa [prS] using this
      | cons y l =>
        have hy := (hN.1 y (by simp)).1
        have hy0 : y ≠ [] := by rintro rfl; simp at hy
        have := hhead y hy0 (46 :: (prS l ++ x.flatMap pr))
        simpa [prS, prL] using this
    · have := read_short l [] x ((prS l ++ x.flatMap pr).length + 1) hx0 (by omega)
      rw [List.nil_append] at this
      exact this
theorem dgS_len (ls : List T) : (dgS ls).length ≤ 4 * (enc ls).length := by
  induction ls with
  | nil => simp [dgS]
  | cons x ls ih =>
    have h : (x.flatMap dg).length = 4 * x.length := by
      induction x with
      | nil => rfl
      | cons c x ih => rw [List.flatMap_cons, List.length_append, ih, List.length_cons]; show 4 + _ = _; omega
    have h1 : (dgL x).length = 4 * x.length + 1 := by unfold dgL; rw [List.length_append, h]; rfl
    unfold dgS at *
    rw [List.flatMap_cons, List.length_append, enc_len_cons, h1]; omega
theorem dgS_succ (ls : List T) (i : Nat) (h : i < ls.length) : dgS (ls.take (i + 1)) = dgS (ls.take i) ++ (ls[i].flatMap dg ++ [46]) := by
  unfold dgS; rw [List.take_succ_eq_append_getElem h, List.flatMap_append]; simp [dgL]
theorem dg_succ (x : T) (k : Nat) (h : k < x.length) : (x.take (k + 1)).flatMap dg = (x.take k).flatMap dg ++ dg x[k] := by
  rw [List.take_succ_eq_append_getElem h, List.flatMap_append]; simp
theorem dg_part (ls : List T) (i k : Nat) (h : i < ls.length) (hk : k ≤ ls[i].length) : (dgS (ls.take i) ++ (ls[i].take k).flatMap dg).length + 1 ≤ 4 * (enc ls).length := by
  have h1 := dgS_len (ls.take i)
  have h2 : ∀ y : T, (y.flatMap dg).length = 4 * y.length := by
    intro y
    induction y with
    | nil => rfl
    | cons c y ih => rw [List.flatMap_cons, List.length_append, ih, List.length_cons]; show 4 + _ = _; omega
  have h3 := enc_len_append (ls.take i) (ls.drop i)
  rw [List.take_append_drop, List.drop_eq_getElem_cons h, enc_len_cons] at h3
  have := enc_len_pos (ls.take i)
  have := enc_len_pos (ls.drop (i + 1))
  rw [List.length_append, h2, List.length_take]
  omega
theorem short_whole {n : T} {ls : List T} (h : nm n = some ls) (hls : ls ≠ []) : parseS (prS ls) = (n, 0) := by
  have e := print_parse h
  unfold printS at e; rw [h] at e; simp only at e
  rw [if_neg (fun h0 => hls (List.length_eq_zero_iff.1 h0))] at e
  exact e
end Go.Proofs.Ytoocmjdnboldhaa.Nl
