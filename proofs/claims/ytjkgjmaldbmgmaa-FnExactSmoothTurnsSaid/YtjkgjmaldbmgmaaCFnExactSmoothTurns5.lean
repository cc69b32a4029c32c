/- The program's SmoothTurns returns what the reference's returns, for all turns; no condition beside. -/
import Derived.Test.YtjkgjmaldbmgmaaCFnExactSmoothTurns4
import Derived.Test.YtjkgjmaldbmgmaaRows
section
namespace Go.Proofs.Ytjkgjmaldbmgmaa.Pure
open Go.RowKit Go.Proofs.Ytjkgjmaldbmgmaa.P Go.Proofs.YtjkgjmaldbmgmaaW.PrintWords Go.Proofs.YtjkgjmaldbmgmaaW.PrintLast Go.Proofs.YtjkgjmaldbmgmaaW.PrintMore
set_option linter.unusedVariables false
set_option linter.unusedSimpArgs false
def best (l : List Int) : Int × Option (Nat × Nat) := bestN l l.length 0 (foldD sqD l, none)
/-- what is kept: the squares found are the least so far -/
def Good (l : List Int) (s : Int × Option (Nat × Nat)) : Prop := match s.2 with
  | none => s.1 = foldD sqD l
  | some p => p.1 < l.length ∧ p.2 < l.length ∧ s.1 = foldD sqD (exch l p.1 p.2) ∧ s.1 < foldD sqD l
theorem Good.le {l : List Int} {s : Int × Option (Nat × Nat)} (h : Good l s) : s.1 ≤ foldD sqD l := by
  obtain ⟨a, o⟩ := s
  cases o with
  | none => exact Int.le_of_eq h
  | some p => exact Int.le_of_lt h.2.2.2
theorem stepB_good {l : List Int} {n m : Nat} (hn : n < l.length) (hm : m < l.length) {s : Int × Option (Nat × Nat)} (h : Good l s) : Good l (stepB l n m s) := by
  unfold stepB
  split
  · next c => exact ⟨hn, hm, rfl, by have := h.le; show foldD sqD (exch l n m) < foldD sqD l; omega⟩
  · exact h
theorem bestM_good {l : List Int} {n : Nat} (hn : n < l.length) : ∀ d m s, m + d ≤ l.length → Good l s → Good l (bestM l n d m s) := by
  intro d
  induction d with
  | zero => intro m s _ h; exact h
  | succ d ih => intro m s hm h; exact ih _ _ (by omega) (stepB_good hn (by omega) h)
theorem bestN_good {l : List Int} : ∀ d n s, n + d ≤ l.length → Good l s → Good l (bestN l d n s) := by
  intro d
  induction d with
  | zero => intro n s _ h; exact h
  | succ d ih => intro n s hn h; exact ih _ _ (by omega) (bestM_good (by omega) _ _ _ (by omega) h)
theorem best_good (l : List Int) : Good l (best l) := bestN_good _ _ _ (by omega) rfl
def oa (o : Option (Nat × Nat)) (z : Int) : Int := match o with | none => z | some p => (p.1 : Int)
def ob (o : Option (Nat × Nat)) (z : Int) : Int := match o with | none => z | some p => (p.2 : Int)
theorem oa_ge (o : Option (Nat × Nat)) : decide (oa o (-1) ≥ 0) = o.isSome := by
  cases o with
  | none => rfl
  | some p => exact decide_eq_true (show (p.1 : Int) ≥ 0 by omega)
theorem impl_best_l1 (l : List Int) (L : Level l) (n : Nat) (hn : n < l.length) (R : Int × Int × Bool) : ∀ d m : Nat, m + d = l.length → ∀ s : Int × Option (Nat × Nat),
    Ev (fun k => impl_bestExchange.l0 k l (bestM l n d m s).1 (oa (bestM l n d m s).2 0) (ob (bestM l n d m s).2 0) (bestM l n d m s).2.isSome (l.length : Int) ((n + 1 : Nat) : Int)) R →
    Ev (fun k => impl_bestExchange.l1 k l s.1 (oa s.2 0) (ob s.2 0) s.2.isSome (n : Int) (m : Int) (l.length : Int) (n : Int)) R := by
  have hl := L.len
  intro d
  induction d with
  | zero =>
    intro m hm s hR
    refine Ev.step (fun k => by rw [impl_bestExchange.l1]) (ev_fix (show impl_length_int64.f l = some (l.length : Int) from rfl) ?_)
    rw [wrap_succ (n := n) (by omega)]
    exact ev_neg (by omega) hR
  | succ d ih =>
    intro m hm s hR
    refine Ev.step (fun k => by rw [impl_bestExchange.l1]) (ev_fix (show impl_length_int64.f l = some (l.length : Int) from rfl) ?_)
    rw [wrap_succ (n := m) (by omega)]
    refine ev_pos (by omega) (ev_fix (exchanged_f l n m (by omega) (by omega) (by omega)) ?_)
    refine ev_bind (squares_ev (exch l n m) ((exch_same l n m hn (by omega)).level L)) ?_
    have ih := ih (m + 1) (by omega) (stepB l n m s) hR
    unfold stepB at ih
    by_cases c : foldD sqD (exch l n m) < s.1
    · rw [if_pos c] at ih
      exact ev_pos c ih
    · rw [if_neg c] at ih
      exact ev_neg c ih
theorem impl_best_l0 (l : List Int) (L : Level l) : ∀ d n : Nat, n + d = l.length → ∀ s : Int × Option (Nat × Nat),
    Ev (fun k => impl_bestExchange.l0 k l s.1 (oa s.2 0) (ob s.2 0) s.2.isSome (l.length : Int) (n : Int)) (oa (bestN l d n s).2 0, ob (bestN l d n s).2 0, (bestN l d n s).2.isSome) := by
  have hl := L.len
  intro d
  induction d with
  | zero =>
    intro n hn s
    refine Ev.step (fun k => by rw [impl_bestExchange.l0]) ?_
    exact ev_neg (by omega) (ev_now _)
  | succ d ih =>
    intro n hn s
    refine Ev.step (fun k => by rw [impl_bestExchange.l0]) ?_
    rw [wrap_succ (by omega)]
    exact ev_pos (by omega) (impl_best_l1 l L n (by omega) _ (l.length - (n + 1)) (n + 1) (by omega) s (ih (n + 1) (by omega) _))
theorem bestExchange_ev (l : List Int) (L : Level l) : Ev (fun k => impl_bestExchange.f k l) (oa (best l).2 0, ob (best l).2 0, (best l).2.isSome) := by
  unfold impl_bestExchange.f
  refine ev_bind (squares_ev l L) (ev_fix (show impl_length_int64.f l = some (l.length : Int) from rfl) ?_)
  exact impl_best_l0 l L l.length 0 (by omega) (foldD sqD l, none)
theorem spec_best_l1 (l : List Int) (L : Level l) (n : Nat) (hn : n < l.length) (R : Int × Int × Bool) : ∀ d m : Nat, m + d = l.length → ∀ s : Int × Option (Nat × Nat), Good l s →
    Ev (fun k => spec_l07Best.l0 k l (sharesL l) (bestM l n d m s).1 (oa (bestM l n d m s).2 (-1)) (ob (bestM l n d m s).2 (-1)) ((n + 1 : Nat) : Int)) R →
    Ev (fun k => spec_l07Best.l1 k l (sharesL l) s.1 (oa s.2 (-1)) (ob s.2 (-1)) (n : Int) (m : Int)) R := by
  have hl := L.len
  intro d
  induction d with
  | zero =>
    intro m hm s _ hR
    refine Ev.step (fun k => by rw [spec_l07Best.l1]) ?_
    rw [wrap_succ (n := n) (by omega)]
    exact ev_neg (by omega) hR
  | succ d ih =>
    intro m hm s hs hR
    refine Ev.step (fun k => by rw [spec_l07Best.l1]) ?_
    rw [wrap_succ (n := m) (by omega), rd_nat hn, rd_nat (n := m) (by omega)]
    refine ev_pos (by omega) (ev_pos (by omega) (ev_pos (by omega) (ev_pos (by omega) ?_)))
    have ih := ih (m + 1) (by omega) (stepB l n m s) (stepB_good hn (by omega) hs) hR
    unfold stepB at ih
    by_cases e : l[n] = l[m]
    · refine ev_pos e ?_
      rw [if_neg (by rw [exch_eq l n m hn (by omega) e]; have := hs.le; omega)] at ih
      exact ih
    · have S := exch_same l n m hn (by omega)
      refine ev_neg e (ev_fix (l07Exchanged_f l n m (by omega) (by omega) (by omega)) ?_)
      have hq := l07Squares_ev (exch l n m) (S.level L)
      rw [S.shares] at hq
      refine ev_bind hq ?_
      by_cases c : foldD sqD (exch l n m) < s.1
      · rw [if_pos c] at ih
        exact ev_pos c ih
      · rw [if_neg c] at ih
        exact ev_neg c ih
theorem spec_best_l0 (l : List Int) (L : Level l) : ∀ d n : Nat, n + d = l.length → ∀ s : Int × Option (Nat × Nat), Good l s →
    Ev (fun k => spec_l07Best.l0 k l (sharesL l) s.1 (oa s.2 (-1)) (ob s.2 (-1)) (n : Int)) (oa (bestN l d n s).2 (-1), ob (bestN l d n s).2 (-1), (bestN l d n s).2.isSome) := by
  have hl := L.len
  intro d
  induction d with
  | zero =>
    intro n hn s _
    refine Ev.step (fun k => by rw [spec_l07Best.l0]) ?_
    exact ev_neg (by omega) (ev_is (by rw [oa_ge]; rfl))
  | succ d ih =>
    intro n hn s hs
    refine Ev.step (fun k => by rw [spec_l07Best.l0]) ?_
    rw [wrap_succ (by omega)]
    exact ev_pos (by omega) (spec_best_l1 l L n (by omega) _ (l.length - (n + 1)) (n + 1) (by omega) s hs (ih (n + 1) (by omega) _ (bestM_good (by omega) _ _ _ (by omega) hs)))
theorem l07Best_ev (l : List Int) (L : Level l) : Ev (fun k => spec_l07Best.f k l (sharesL l)) (oa (best l).2 (-1), ob (best l).2 (-1), (best l).2.isSome) := by
  unfold spec_l07Best.f
  refine ev_bind (l07Squares_ev l L) ?_
  exact spec_best_l0 l L l.length 0 (by omega) (foldD sqD l, none) rfl
end Go.Proofs.Ytjkgjmaldbmgmaa.Pure
end
section
namespace Go.Proofs.Ytjkgjmaldbmgmaa.Pure
open Go.RowKit Go.Proofs.Ytjkgjmaldbmgmaa.P Go.Proofs.YtjkgjmaldbmgmaaW.PrintWords Go.Proofs.YtjkgjmaldbmgmaaW.PrintLast Go.Proofs.YtjkgjmaldbmgmaaW.PrintMore
set_option linter.unusedVariables false
set_option linter.unusedSimpArgs false
theorem Shares_l2 (l s : List Int) (hl : l.length ≤ 1048576) (hs : s.length ≤ 1048576) : ∀ d n : Nat, n + d = s.length → (∀ x ∈ s.take n, x ≠ 0) →
    Ev (fun k => spec_l07Shares.l2 k l s (s.length : Int) (n : Int)) (if s.contains 0 = true then ([], false) else (s, decide ((l.length : Int) ≤ 60))) := by
  intro d
  induction d with
  | zero =>
    intro n hn ha
    rw [List.take_of_length_le (by omega)] at ha
    rw [if_neg (fun h => ha 0 (List.contains_iff_mem.1 h) rfl)]
    exact Ev.step (fun k => by rw [spec_l07Shares.l2]) (ev_neg (by omega) (ev_now _))
  | succ d ih =>
    intro n hn ha
    have hlt : n < s.length := by omega
    refine Ev.step (fun k => by rw [spec_l07Shares.l2]) (ev_pos (by omega) (ev_pos (by omega) (ev_pos (by omega) ?_)))
    rw [rd_nat hlt]
    by_cases c : s[n] = 0
    · rw [if_pos (List.contains_iff_mem.2 (c ▸ List.getElem_mem hlt))]
      exact ev_pos c (ev_now _)
    · refine ev_neg c ?_
      rw [wrap_succ (by omega)]
      refine ih (n + 1) (by omega) fun x hx => ?_
      rw [List.take_succ_eq_append_getElem hlt] at hx
      rcases List.mem_append.1 hx with hx | hx
      · exact ha x hx
      · rw [List.mem_singleton.1 hx]; exact c
theorem Shares_l1 (l : List Int) (hl : l.length ≤ 1048576) (hm : ∀ x ∈ l, 0 ≤ x ∧ x ≤ 7) (R : List Int × Bool) (hR : Ev (fun k => spec_l07Shares.l2 k l (sharesL l) ((sharesL l).length : Int) 0) R) : ∀ d n : Nat, n + d = l.length →
    Ev (fun k => spec_l07Shares.l1 k l (tab (fun i => cnt (i : Int) (l.take n)) (great l + 1).toNat) (n : Int)) R := by
  have hg := great_nonneg l
  intro d
  induction d with
  | zero =>
    intro n hn
    rw [List.take_of_length_le (by omega)]
    refine Ev.step (fun k => by rw [spec_l07Shares.l1]) ?_
    exact ev_neg (by omega) hR
  | succ d ih =>
    intro n hn
    have hlt : n < l.length := by omega
    have hx := hm _ (List.getElem_mem hlt)
    have hx2 := great_pos (List.getElem_mem hlt)
    refine Ev.step (fun k => by rw [spec_l07Shares.l1]) (ev_pos (by omega) (ev_pos (by omega) ?_))
    rw [rd_nat hlt]
    refine ev_pos (by omega) (ev_pos (by rw [tab_length]; omega) ?_)
    obtain ⟨b, hb⟩ : ∃ b : Nat, l[n] = b := ⟨l[n].toNat, by omega⟩
    have hcb := cnt_bounds (b : Int) (l.take n)
    rw [List.length_take] at hcb
    rw [hb, Int.toNat_natCast, rd_tab (by omega), wrap_id (by omega) (by omega), wrap_succ (by omega), tab_set]
    have ih := ih (n + 1) (by omega)
    rw [tab_congr (g := fun i => if i = b then cnt (b : Int) (l.take n) + 1 else cnt (i : Int) (l.take n)) (fun i hi => by
      rw [cnt_take_succ _ l n hlt, hb]
      by_cases e : i = b
      · subst e; rw [if_pos rfl, if_pos rfl]
      · rw [if_neg (by omega), if_neg e, Int.add_zero])] at ih
    exact ih
theorem Shares_l0 (l : List Int) (hl : l.length ≤ 1048576) (h7 : ∀ x ∈ l, x ≤ 7) : ∀ d n : Nat, n + d = l.length → (∀ x ∈ l.take n, 0 ≤ x) →
    Ev (fun k => spec_l07Shares.l0 k l (great (l.take n)) (n : Int)) (if (∀ x ∈ l, 0 ≤ x) then (if (sharesL l).contains 0 = true then ([], false) else (sharesL l, decide ((l.length : Int) ≤ 60))) else ([], false)) := by
  have hg := great_nonneg l
  have hg7 := great_le (l := l) (b := 7) (by omega) h7
  intro d
  induction d with
  | zero =>
    intro n hn ha
    rw [List.take_of_length_le (by omega)] at ha ⊢
    rw [if_pos ha]
    refine Ev.step (fun k => by rw [spec_l07Shares.l0]) (ev_neg (by omega) ?_)
    rw [wrap_id (by omega) (by omega)]
    refine ev_pos (by omega) (ev_pos (by omega) ?_)
    have hlen : (sharesL l).length ≤ 1048576 := by rw [sharesL, tab_length]; omega
    have h1 := Shares_l1 l hl (fun x hx => ⟨ha x hx, h7 x hx⟩) _ (Shares_l2 l (sharesL l) hl hlen (sharesL l).length 0 (by omega) (by simp)) l.length 0 (by omega)
    rw [show tab (fun i => cnt (i : Int) (l.take 0)) (great l + 1).toNat = List.replicate (great l + 1).toNat 0 by
      rw [← tab_zero]; exact tab_congr fun i _ => by simp [cnt]] at h1
    exact h1
  | succ d ih =>
    intro n hn ha
    have hlt : n < l.length := by omega
    refine Ev.step (fun k => by rw [spec_l07Shares.l0]) (ev_pos (by omega) (ev_pos (by omega) ?_))
    rw [rd_nat hlt]
    by_cases c : l[n] < 0
    · rw [if_neg (fun h => by have := h _ (List.getElem_mem hlt); omega)]
      exact ev_pos c (ev_now _)
    · refine ev_neg c ?_
      rw [wrap_succ (by omega), ← great_take_succ l n hlt]
      refine ih (n + 1) (by omega) fun x hx => ?_
      rw [List.take_succ_eq_append_getElem hlt] at hx
      rcases List.mem_append.1 hx with hx | hx
      · exact ha x hx
      · rw [List.mem_singleton.1 hx]; omega
theorem l07Given_ev (l : List Int) (hl : l.length ≤ 1048576) : Ev (fun k => spec_l07Given.f k l) (if levelR l = 0 then sharesL l else [], levelR l) := by
  unfold spec_l07Given.f
  refine ev_bind (l01Turns_ev l 8 (by omega)) ?_
  cases ht : isTurns l 8 with
  | false => exact ev_neg (by simp) (ev_is (by simp [levelR, ht]))
  | true =>
    have h7 : ∀ x ∈ l, x ≤ 7 := fun x hx => (isTurns8_mem ht hx).2
    refine ev_pos rfl (ev_bind (show Ev (fun k => spec_l07Shares.f k l) _ from Shares_l0 l hl h7 l.length 0 (by omega) (by simp)) ?_)
    by_cases hc : l.contains (-1) = true
    · have hr : levelR l = 5 := by unfold levelR; rw [if_pos ht, if_pos hc]
      have e : ¬ (∀ x ∈ l, 0 ≤ x) := fun h => by have := h _ (List.contains_iff_mem.1 hc); omega
      refine ev_neg (by rw [if_neg e]; simp) (ev_is (by rw [hr]; rfl))
    · have hc2 := Bool.eq_false_iff.2 hc
      have e : ∀ x ∈ l, 0 ≤ x := fun x hx => by
        have := isTurns8_mem ht hx
        have : x ≠ -1 := fun e => contains_false hc2 (e ▸ hx)
        omega
      by_cases hz : (sharesL l).contains 0 = true
      · have hr : levelR l = 5 := by unfold levelR; rw [if_pos ht, if_neg hc, if_pos hz]
        exact ev_neg (by rw [if_pos e, if_pos hz]; simp) (ev_is (by rw [hr]; rfl))
      · by_cases h60 : (l.length : Int) ≤ 60
        · have hr : levelR l = 0 := by unfold levelR; rw [if_pos ht, if_neg hc, if_neg hz, if_neg (by omega)]
          exact ev_pos (by rw [if_pos e, if_neg hz]; exact decide_eq_true h60) (ev_is (by rw [hr, if_pos e, if_neg hz]; rfl))
        · have hr : levelR l = 5 := by unfold levelR; rw [if_pos ht, if_neg hc, if_neg hz, if_pos (by omega)]
          exact ev_neg (by rw [if_pos e, if_neg hz]; simp only [decide_eq_false h60]; simp) (ev_is (by rw [hr]; rfl))
end Go.Proofs.Ytjkgjmaldbmgmaa.Pure
end
section
namespace Go.Proofs.Ytjkgjmaldbmgmaa.Pure
open Go.RowKit Go.Proofs.Ytjkgjmaldbmgmaa.P Go.Proofs.YtjkgjmaldbmgmaaW.PrintWords Go.Proofs.YtjkgjmaldbmgmaaW.PrintLast Go.Proofs.YtjkgjmaldbmgmaaW.PrintMore
set_option linter.unusedVariables false
set_option linter.unusedSimpArgs false
theorem sq_bounds {d : Int} (h : -3600 ≤ d ∧ d ≤ 3600) : 0 ≤ d * d ∧ d * d ≤ 12960000 := by
  by_cases c : 0 ≤ d
  · exact ⟨Int.mul_nonneg c c, by have := Int.mul_le_mul h.2 h.2 c (by omega); omega⟩
  · have e : d * d = (-d) * (-d) := (Int.neg_mul_neg d d).symm
    rw [e]
    exact ⟨Int.mul_nonneg (by omega) (by omega), by have := Int.mul_le_mul (show -d ≤ 3600 by omega) (show -d ≤ 3600 by omega) (by omega) (by omega); omega⟩
theorem foldI_sq (l : List Int) (hl : l.length ≤ 60) (n : Nat) (hn : n ≤ l.length) : ∀ (d i : Nat) (a : Int), 0 ≤ a → a + 12960000 * (d : Int) ≤ 1000000000000 → 0 ≤ foldI sqD l n d i a ∧ foldI sqD l n d i a ≤ a + 12960000 * (d : Int) := by
  intro d
  induction d with
  | zero => intro i a ha _; exact ⟨ha, by show a ≤ a + 12960000 * ((0 : Nat) : Int); omega⟩
  | succ d ih =>
    intro i a ha hd
    have hb := sq_bounds (dif_bounds l hl n i hn)
    have e : sqD a (dif l n i) = a + dif l n i * dif l n i := by
      unfold sqD
      rw [wrap_id (x := dif l n i * dif l n i) (by omega) (by omega), wrap_id (by omega) (by omega)]
    rw [foldI, e]
    have h := ih (i + 1) (a + dif l n i * dif l n i) (by omega) (by omega)
    omega
theorem foldN_sq (l : List Int) (hl : l.length ≤ 60) (m : Nat) (hm : m ≤ 8) : ∀ (d n : Nat) (a : Int), n + d = l.length + 1 → 0 ≤ a → a + 103680000 * (d : Int) ≤ 1000000000000 → 0 ≤ foldN sqD l m d n a := by
  intro d
  induction d with
  | zero => intro n a _ ha _; exact ha
  | succ d ih =>
    intro n a hn ha hd
    have h := foldI_sq l hl n (by omega) m 0 a ha (by omega)
    rw [foldN]
    exact ih (n + 1) _ (by omega) h.1 (by omega)
theorem foldD_nonneg (l : List Int) (L : Level l) : 0 ≤ foldD sqD l := by
  have ht := L.top
  have hl := L.len
  exact foldN_sq l hl.2 _ (by omega) _ _ _ (by omega) (by omega) (by omega)
def smoothF : Nat → List Int → List Int
  | 0, l => l
  | f + 1, l => match (best l).2 with
    | none => l
    | some p => smoothF f (exch l p.1 p.2)
def smooth (l : List Int) : List Int := smoothF ((foldD sqD l).toNat + 1) l
theorem best_some (l : List Int) (L : Level l) (p : Nat × Nat) (h : (best l).2 = some p) : (p.1 < l.length ∧ p.2 < l.length) ∧ Level (exch l p.1 p.2) ∧ SameT l (exch l p.1 p.2) ∧ foldD sqD (exch l p.1 p.2) < foldD sqD l := by
  have g := best_good l
  unfold Good at g
  rw [h] at g
  obtain ⟨h1, h2, h3, h4⟩ := g
  have S := exch_same l p.1 p.2 h1 h2
  exact ⟨⟨h1, h2⟩, S.level L, S, by omega⟩
theorem impl_smooth_l0 : ∀ (f : Nat) (l : List Int), Level l → (foldD sqD l).toNat < f →
    Ev (fun k => impl_SmoothTurns.l0 k l (oa (best l).2 0) (ob (best l).2 0) (best l).2.isSome) (smoothF f l, 0) := by
  intro f
  induction f with
  | zero => intro l _ h; omega
  | succ f ih =>
    intro l L h
    refine Ev.step (fun k => by rw [impl_SmoothTurns.l0]) ?_
    rw [smoothF]
    cases hb : (best l).2 with
    | none => exact ev_neg (by simp) (ev_now _)
    | some p =>
      obtain ⟨⟨h1, h2⟩, L', S, h3⟩ := best_some l L p hb
      have h0 := foldD_nonneg _ L'
      have hl := L.len
      exact ev_pos rfl (ev_fix (exchanged_f l p.1 p.2 (by omega) (by omega) (by omega)) (ev_bind (bestExchange_ev _ L') (ih _ L' (by omega))))
theorem spec_smooth_l0 (s : List Int) : ∀ (f : Nat) (l : List Int), Level l → sharesL l = s → (foldD sqD l).toNat < f →
    Ev (fun k => spec_SmoothTurns.l0 k s l) (smoothF f l, 0) := by
  intro f
  induction f with
  | zero => intro l _ _ h; omega
  | succ f ih =>
    intro l L hs h
    have hB := l07Best_ev l L
    rw [hs] at hB
    refine Ev.step (fun k => by rw [spec_SmoothTurns.l0]) ?_
    refine ev_bind hB ?_
    rw [smoothF]
    cases hb : (best l).2 with
    | none => exact ev_neg (by simp) (ev_now _)
    | some p =>
      obtain ⟨⟨h1, h2⟩, L', S, h3⟩ := best_some l L p hb
      have h0 := foldD_nonneg _ L'
      have hl := L.len
      exact ev_pos rfl (ev_fix (l07Exchanged_f l p.1 p.2 (by omega) (by omega) (by omega)) (ih _ L' (S.shares.trans hs) (by omega)))
theorem smoothF_length : ∀ (f : Nat) (l : List Int), (smoothF f l).length = l.length := by
  intro f
  induction f with
  | zero => intro l; rfl
  | succ f ih =>
    intro l
    rw [smoothF]
    split
    · rfl
    · rw [ih, exch_length]
def smoothR (l : List Int) : List Int × Int := if levelR l = 0 then (smooth l, 0) else ([], levelR l)
theorem smoothR_length (l : List Int) : (smoothR l).1.length ≤ l.length := by
  unfold smoothR
  split
  · exact Nat.le_of_eq (smoothF_length _ _)
  · exact Nat.zero_le _
theorem SmoothTurns_spec (l : List Int) (hl : l.length ≤ 1048576) : Ev (fun k => spec_SmoothTurns.f k l) (smoothR l) := by
  unfold spec_SmoothTurns.f smoothR
  refine ev_bind (l07Given_ev l hl) ?_
  by_cases h : levelR l = 0
  · rw [if_pos h, if_pos h]
    exact ev_pos h (ev_fix (l01Own_f l (by omega)) (spec_smooth_l0 _ _ l (levelR_zero h) rfl (by omega)))
  · rw [if_neg h, if_neg h]
    exact ev_neg h (ev_now _)
theorem SmoothTurns_impl (l : List Int) (hl : l.length ≤ 1048576) : Ev (fun k => impl_SmoothTurns.f k l) (smoothR l) := by
  unfold impl_SmoothTurns.f smoothR
  refine ev_bind (levelCode_ev l hl) ?_
  by_cases h : levelR l = 0
  · rw [if_pos h]
    exact ev_pos h (ev_fix (Clone_f l (by omega)) (ev_bind (bestExchange_ev l (levelR_zero h)) (impl_smooth_l0 _ l (levelR_zero h) (by omega))))
  · rw [if_neg h]
    exact ev_neg h (ev_now _)
end Go.Proofs.Ytjkgjmaldbmgmaa.Pure
end
section
namespace Go.Proofs.Ytjkgjmaldbmgmaa.Pure
open Go.RowKit Go.Proofs.Ytjkgjmaldbmgmaa.P Go.Proofs.YtjkgjmaldbmgmaaW.PrintWords Go.Proofs.YtjkgjmaldbmgmaaW.PrintLast Go.Proofs.YtjkgjmaldbmgmaaW.PrintMore
set_option linter.unusedVariables false
set_option linter.unusedSimpArgs false
theorem SmoothTurns_j2 (N : Nat) (hN : 1 + (N : Int) ≤ 9223372036854775807) : Ev (fun k => laws_FnExactSmoothTurns.j2 k (upFrom 1 N) (1 + N) false) true := by
  refine Ev.step (fun k => by rw [laws_FnExactSmoothTurns.j2]) ?_
  refine ev_neg (by simp) (ev_bind (heldInt64S_ev 1 (by omega) N hN) ?_)
  exact ev_neg (by omega) (ev_pos rfl (ev_now _))
theorem SmoothTurns_j1 (l : List Int) (hl : l.length ≤ 1048576) : Ev (fun k => laws_FnExactSmoothTurns.j1 k l (smoothR l).1 (smoothR l).2 (smoothR l).1 false) true := by
  have hr := smoothR_length l
  refine Ev.step (fun k => by rw [laws_FnExactSmoothTurns.j1]) ?_
  refine ev_neg (by simp) (ev_bind (markInt64S_ev _ 1 (by omega) (by omega)) (ev_bind (heldInt64S_ev 1 (by omega) _ (by omega)) ?_))
  refine ev_neg (by omega) (ev_pos rfl (ev_bind (toInt64S_ev l (by omega)) (ev_bind (SmoothTurns_impl l hl) (ev_bind (eqInt64S_ev _ (by omega)) (ev_pos rfl ?_)))))
  rw [bne_self_eq_false]
  exact SmoothTurns_j2 _ (by omega)
theorem SmoothTurns_j0 (l : List Int) (hl : l.length ≤ 1048576) : Ev (fun k => laws_FnExactSmoothTurns.j0 k l (smoothR l).1 (smoothR l).2 l (smoothR l).1 (smoothR l).2 false) true := by
  have hr := smoothR_length l
  refine Ev.step (fun k => by rw [laws_FnExactSmoothTurns.j0]) ?_
  refine ev_neg (by simp) (ev_bind (toInt64S_ev l (by omega)) (ev_bind (eqInt64S_ev l (by omega)) (ev_pos rfl (ev_bind (markInt64S_ev l 1 (by omega) (by omega)) ?_))))
  refine ev_neg (by omega) (ev_bind (eqInt64S_ev _ (by omega)) (ev_pos rfl ?_))
  rw [bne_self_eq_false]
  exact SmoothTurns_j1 l hl
theorem FnExactSmoothTurns : laws_FnExactSmoothTurns.Pure := by
  intro l _ _ _
  refine ev_rounds (g := fun k => laws_FnExactSmoothTurns.f k l) ?_
  unfold laws_FnExactSmoothTurns.f
  by_cases hl : l.length ≤ 1048576
  · have hr := smoothR_length l
    refine ev_neg (by omega) (ev_bind (toInt64S_ev l (by omega)) (ev_bind (SmoothTurns_spec l hl) (ev_bind (toInt64S_ev l (by omega)) (ev_bind (SmoothTurns_impl l hl) (ev_bind (eqInt64S_ev _ (by omega)) (ev_pos rfl ?_))))))
    rw [bne_self_eq_false]
    exact SmoothTurns_j0 l hl
  · exact ev_pos (by omega) (ev_now _)
end Go.Proofs.Ytjkgjmaldbmgmaa.Pure
end
section
namespace Go.Proofs.Ytjkgjmaldbmgmaa.fnExactSmoothTurns
open Go.ChangeShapes Go.WideShapes Go.ChangeAt Go.RowKit
open Go.ChangeMaps (open_string shut_string)
set_option linter.unusedVariables false
theorem own : ownKnob Try.prog.godebug = none := by kernel_rfl
theorem laidOut : laidOutB Try.prog = true := by kernel_rfl
def IsRow (k : IntKind) (w : World) (a : Option Addr) (len cap : Nat) (zs : List Int) : Prop :=
  (a = none ∧ len = 0 ∧ cap = 0 ∧ zs = []) ∨
  ∃ x, a = some x ∧ len ≤ cap ∧ cap ≤ maxLen ∧ zs.length = cap ∧ (∀ i, i < zs.length → w.cell? (x.add i) = some (.int k (zs.getD i 0))) ∧ ∀ n ∈ zs, (Lit.int k n).wf = true
set_option maxRecDepth 100000 in
theorem lifted (os : Os) (started : os.Started) (H : Type) (enc : TypeId × Value → H) :
    ReturnsInHanded {} Try.checked os 10 .any (Rows.fnExactSmoothTurnsSpec.pre6 enc Try.prog Try.f10 Rows.fnExactSmoothTurnsRow.domain false) (Rows.fnExactSmoothTurnsSpec.post enc Try.prog Try.f10 false true false false) := by
  refine returnsInHanded_of_change_sized (C := Try.checked) own started (by kernel_rfl) Try.func10
    (ChangeSpec.witness6 (enc := enc) (C := Try.checked) false ⟨#[], #[.slice none 0 0], []⟩ 8 (by kernel_rfl) (by kernel_rfl) (by kernel_rfl) (by kernel_rfl)) ?_
  intro W base args ds gs before hval0 hW hcnd hsz0 _
  have hsz : (DataW.weightsEach Try.prog (Try.f10.params.toList ++ Rows.fnExactSmoothTurnsSpec.plain.varTypes Try.prog) (ds ++ gs)).all (· ≤ reachBytes) = true := hsz0
  have hval : ∀ (j : Nat) t v, Try.f10.params[j]? = some t → args[j]? = some v → Value.okWide Try.prog W .any base t v := hval0
  have hW' := hW
  obtain ⟨p, q, hA0, hV, rfl, hfz, hnd⟩ := hW
  have hA : DataW.TrodAll enc Try.prog W 0 (fun _ => true) true Try.f10.params.toList args.toList ds p := hA0
  rw [Try.params10] at hA hval hsz
  obtain ⟨v0, vs0, d0, ds0, p0, q0, hargs, rfl, rfl, h0, r0⟩ := trodAll_cons hA
  obtain ⟨rfl, rfl, rfl⟩ := trodAll_nil r0
  obtain rfl : args = #[v0] := by cases args; simp_all
  obtain ⟨rfl, rfl⟩ := trodVars_none hV
  obtain ⟨a0, len0, cap0, rfl⟩ := okWide_slice Try.underlying22 (hval 0 22 v0 rfl rfl)
  have k0 := h0
  have lt0 : ∀ x ∈ p0, x.block < W.heap.size := by obtain ⟨m, hm⟩ := k0; exact DataW.trod_lt m _ _ _ hm
  obtain ⟨z0, w0⟩ : ∃ zs, IsRow .i64 W a0 len0 cap0 zs := by
    obtain ⟨fuel, hf⟩ := h0
    rcases open_ints Try.underlying22 Try.underlying2 (by kernel_rfl) hf with ⟨hcs, _⟩ | ⟨x, l, c, zs, hcs, _, hl, hm, hz, _, hcell, hwz⟩
    · simp [Value.cells] at hcs
      obtain ⟨rfl, rfl, rfl⟩ := hcs
      exact ⟨[], .inl ⟨rfl, rfl, rfl, rfl⟩⟩
    · simp [Value.cells] at hcs
      obtain ⟨rfl, rfl, rfl⟩ := hcs
      exact ⟨zs, .inr ⟨_, rfl, hl, hm, by simpa using hz, hcell, hwz⟩⟩
  have y0 : len0 * 8 ≤ 140737488351232 := Go.Proofs.YtjkgjmaldbmgmaaW.PrintWords.sized_ints hsz (j := 0) (t := 22) rfl rfl Try.underlying22 Try.underlying2 (by kernel_rfl) (by kernel_rfl) h0
  clear hA0 hval0 hsz0 hsz
  refine (P.laws_FnExactSmoothTurns.walk Pure.FnExactSmoothTurns a0 len0 cap0 z0 W w0 y0).mono fun e W' ⟨he, bel⟩ => ?_
  subst he
  exact ⟨_, rfl, _, _, _, [], _, [], hW', trodAll_mk1 (shut_bool Try.underlying4 _), (trodAll_cons_mk (Below.trod laidOut (by kernel_rfl) (of_decide_eq_true (by kernel_rfl)) k0 bel lt0) trodAll_mk0), rfl, bel.frame _, fun h => by cases h⟩
theorem over : Rows.fnExactSmoothTurnsRow.holds Try.pinned (OpenSpec.ofChange Rows.fnExactSmoothTurnsSpec) :=
  OpenClaim.holds_of_wide 10 Try.f10 rfl rfl rfl rfl rfl rfl rfl ⟨rfl, rfl, rfl, rfl, rfl⟩ rfl rfl rfl rfl rfl (by kernel_rfl) Try.func10 (by kernel_rfl)
    (of_decide_eq_true (by kernel_rfl)) (by unfold Func.isWrapper; first | (rw [if_pos (by decide +kernel)]; kernel_rfl) | (rw [if_neg (by decide +kernel)]; exact ⟨rfl, rfl⟩))
    (fun os started H enc _ => lifted os started H enc)
theorem proved : Rows.FnExactSmoothTurnsSaid := over
end Go.Proofs.Ytjkgjmaldbmgmaa.fnExactSmoothTurns
namespace Go.Proofs.Ytjkgjmaldbmgmaa
/-- The row, under a short name, for the claim. -/
theorem fnExactSmoothTurns_holds : Rows.FnExactSmoothTurnsSaid := fnExactSmoothTurns.proved
end Go.Proofs.Ytjkgjmaldbmgmaa
end
