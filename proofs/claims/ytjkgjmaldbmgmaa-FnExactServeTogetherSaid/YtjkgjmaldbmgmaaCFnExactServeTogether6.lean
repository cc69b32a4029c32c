/- The program's ServeTogether returns what the reference's returns, for all tasks and channels; no condition beside. -/
import Derived.Test.YtjkgjmaldbmgmaaCFnExactServeTogether5
import Derived.Test.YtjkgjmaldbmgmaaRows
section
namespace Go.Proofs.Ytjkgjmaldbmgmaa.P
open Go.RowKit Go.Proofs.YtjkgjmaldbmgmaaW.PrintWords Go.Proofs.YtjkgjmaldbmgmaaW.PrintLast Go.Proofs.YtjkgjmaldbmgmaaW.PrintMore
attribute [local go_sem] max2_int min2_int max_two min_two max_three min_three max_four min_four   -- for this text's walks alone
set_option linter.unusedVariables false
set_option linter.unusedSimpArgs false
def impl_Tasks_serves.l0 : Nat → List Int → List Int → Int → Int → Option (Bool)
  | 0, _, _, _, _ => none
  | k + 1, x1, x9, x10, x11 => if x11 < x10 then (if 0 ≤ x11 then (if x11 < (x9.length : Int) then ((impl_waits.f k x1 x11).bind fun t103 => (if (t103.length : Int) = 0 then (some false) else ((impl_greatest.f k t103).bind fun t106 => (if t106 > (rd x9 x11) then (some false) else (impl_Tasks_serves.l0 k x1 x9 x10 (wrap64 (x11 + 1))))))) else (none)) else (none)) else (some true)
def impl_Tasks_serves.f (k : Nat) (l0_0 : List Int) (l1 : List Int) : Option (Bool) := impl_Tasks_serves.l0 k l1 l0_0 (l0_0.length : Int) 0
theorem impl_Tasks_serves.mono_l : ∀ k, (∀ y0 y1 y2 y3, LeO (impl_Tasks_serves.l0 k y0 y1 y2 y3) (impl_Tasks_serves.l0 (k + 1) y0 y1 y2 y3))
  | 0 => fun _ _ _ _ r h => by simp [impl_Tasks_serves.l0] at h
  | k + 1 => by
    have ih0 := impl_Tasks_serves.mono_l k
    · intro y0 y1 y2 y3
      unfold impl_Tasks_serves.l0
      repeat' first
      | (with_reducible exact ih0 _ _ _ _)
      | (with_reducible exact impl_greatest.mono _ _)
      | (with_reducible exact impl_waits.mono _ _ _)
      | (with_reducible exact LeO.refl _)
      | (with_reducible exact LeO.none _)
      | (with_reducible refine LeO.ite ?_ ?_)
      | (with_reducible refine LeO.bind ?_ (fun _ => ?_))
      | exact ih0 _ _ _ _
      | exact impl_greatest.mono _ _
      | exact impl_waits.mono _ _ _
      | exact LeO.none _
      | refine LeO.ite ?_ ?_
      | refine LeO.bind ?_ (fun _ => ?_)
theorem impl_Tasks_serves.mono : ∀ a0 a1 k, LeO (impl_Tasks_serves.f k a0 a1) (impl_Tasks_serves.f (k + 1) a0 a1) := by
  intro a0 a1 k
  have ih0 := impl_Tasks_serves.mono_l k
  unfold impl_Tasks_serves.f
  repeat' first
      | (with_reducible exact ih0 _ _ _ _)
      | (with_reducible exact impl_greatest.mono _ _)
      | (with_reducible exact impl_waits.mono _ _ _)
      | (with_reducible exact LeO.refl _)
      | (with_reducible exact LeO.none _)
      | (with_reducible refine LeO.ite ?_ ?_)
      | (with_reducible refine LeO.bind ?_ (fun _ => ?_))
      | exact ih0 _ _ _ _
      | exact impl_greatest.mono _ _
      | exact impl_waits.mono _ _ _
      | exact LeO.none _
      | refine LeO.ite ?_ ?_
      | refine LeO.bind ?_ (fun _ => ?_)
end Go.Proofs.Ytjkgjmaldbmgmaa.P
end
section
namespace Go.Proofs.Ytjkgjmaldbmgmaa.P
open Go.RowKit Go.Proofs.YtjkgjmaldbmgmaaW.PrintWords Go.Proofs.YtjkgjmaldbmgmaaW.PrintLast Go.Proofs.YtjkgjmaldbmgmaaW.PrintMore
attribute [local go_sem] max2_int min2_int max_two min_two max_three min_three max_four min_four   -- for this text's walks alone
set_option linter.unusedVariables false
set_option linter.unusedSimpArgs false
def spec_l01Serves.l0 : Nat → List Int → Int → List Int → Option (Bool)
  | 0, _, _, _ => none
  | k + 1, x1, x5, x102000 => (spec_l01K.f x102000).bind fun t102 => (if x5 < t102 then ((spec_l01Greatest.f k x1 x5).bind fun t103 => (if 0 ≤ x5 then (if x5 < (x102000.length : Int) then ((spec_l01In.f t103 1 (rd x102000 x5)).bind fun t105 => (if t105 = true then (spec_l01Serves.l0 k x1 (wrap64 (x5 + 1)) x102000) else (some false))) else (none)) else (none))) else (some true))
def spec_l01Serves.f (k : Nat) (l0_0 : List Int) (l1 : List Int) : Option (Bool) := spec_l01Serves.l0 k l1 0 l0_0
theorem spec_l01Serves.mono_l : ∀ k, (∀ y0 y1 y2, LeO (spec_l01Serves.l0 k y0 y1 y2) (spec_l01Serves.l0 (k + 1) y0 y1 y2))
  | 0 => fun _ _ _ r h => by simp [spec_l01Serves.l0] at h
  | k + 1 => by
    have ih0 := spec_l01Serves.mono_l k
    · intro y0 y1 y2
      unfold spec_l01Serves.l0
      repeat' first
      | (with_reducible exact ih0 _ _ _)
      | (with_reducible exact spec_l01Greatest.mono _ _ _)
      | (with_reducible exact LeO.refl _)
      | (with_reducible exact LeO.none _)
      | (with_reducible refine LeO.ite ?_ ?_)
      | (with_reducible refine LeO.bind ?_ (fun _ => ?_))
      | exact ih0 _ _ _
      | exact spec_l01Greatest.mono _ _ _
      | exact LeO.none _
      | refine LeO.ite ?_ ?_
      | refine LeO.bind ?_ (fun _ => ?_)
theorem spec_l01Serves.mono : ∀ a0 a1 k, LeO (spec_l01Serves.f k a0 a1) (spec_l01Serves.f (k + 1) a0 a1) := by
  intro a0 a1 k
  have ih0 := spec_l01Serves.mono_l k
  unfold spec_l01Serves.f
  repeat' first
      | (with_reducible exact ih0 _ _ _)
      | (with_reducible exact spec_l01Greatest.mono _ _ _)
      | (with_reducible exact LeO.refl _)
      | (with_reducible exact LeO.none _)
      | (with_reducible refine LeO.ite ?_ ?_)
      | (with_reducible refine LeO.bind ?_ (fun _ => ?_))
      | exact ih0 _ _ _
      | exact spec_l01Greatest.mono _ _ _
      | exact LeO.none _
      | refine LeO.ite ?_ ?_
      | refine LeO.bind ?_ (fun _ => ?_)
end Go.Proofs.Ytjkgjmaldbmgmaa.P
end
section
namespace Go.Proofs.Ytjkgjmaldbmgmaa.Pure
open Go.RowKit Go.Proofs.Ytjkgjmaldbmgmaa.P Go.Proofs.YtjkgjmaldbmgmaaW.PrintWords Go.Proofs.YtjkgjmaldbmgmaaW.PrintLast Go.Proofs.YtjkgjmaldbmgmaaW.PrintMore
set_option linter.unusedVariables false
set_option linter.unusedSimpArgs false
theorem posOf_rd {x : Int} {l : List Int} {i : Nat} (h : i < (posOf x 0 l).length) : 0 ≤ rd (posOf x 0 l) i ∧ rd (posOf x 0 l) i < l.length := by
  rw [rd_nat h]
  have := posOf_range x l 0 _ (List.getElem_mem h)
  omega
theorem l01Waits_l0 (l : List Int) (x : Int) (hl : l.length ≤ 1048576) : ∀ d n : Nat, n + d = l.length →
    Ev (fun k => spec_l01Waits.l0 k l x (diffs (posOf x 0 (l.take n))) ((posOf x 0 (l.take n)).headD (-1)) ((posOf x 0 (l.take n)).getLastD (-1)) (n : Int)) (waitsOf l x) := by
  intro d
  induction d with
  | zero =>
    intro n hn
    rw [List.take_of_length_le (by omega)]
    refine Ev.step (fun k => by rw [spec_l01Waits.l0]) (ev_neg (by omega) ?_)
    have hlen := posOf_length x l 0
    by_cases hp : posOf x 0 l = []
    · rw [hp]
      refine ev_neg (by simp) (ev_is ?_)
      simp [waitsOf, hp, diffs]
    · have h1 := posOf_range x l 0 _ (headD_mem hp (-1))
      have h2 := posOf_range x l 0 _ (getLastD_mem hp (-1))
      refine ev_pos (by omega) (ev_pos (by rw [diffs_length]; omega) (ev_is ?_))
      rw [wrap_id (x := (l.length : Int) - _) (by omega) (by omega), wrap_id (by omega) (by omega), waitsOf, if_neg hp]
  | succ d ih =>
    intro n hn
    have hlt : n < l.length := by omega
    refine Ev.step (fun k => by rw [spec_l01Waits.l0]) (ev_pos (by omega) (ev_pos (by omega) ?_))
    rw [rd_nat hlt, wrap_succ (by omega)]
    have ih := ih (n + 1) (by omega)
    rw [posOf_take_succ x l n hlt] at ih
    have hlen := posOf_length x (l.take n) 0
    rw [List.length_take] at hlen
    by_cases hx : l[n] = x
    · rw [if_pos hx] at ih
      refine ev_pos hx ?_
      by_cases hp : posOf x 0 (l.take n) = []
      · rw [hp] at ih ⊢
        exact ev_pos (by simp) (by simpa [diffs] using ih)
      · have h1 := posOf_range x (l.take n) 0 _ (headD_mem hp (-1))
        have h2 := posOf_range x (l.take n) 0 _ (getLastD_mem hp (-1))
        rw [List.length_take] at h1 h2
        refine ev_neg (by omega) (ev_pos (by rw [diffs_length]; omega) ?_)
        rw [wrap_id (by omega) (by omega)]
        rw [diffs_snoc _ _ (-1) hp] at ih
        have e1 : (posOf x 0 (l.take n) ++ [(n : Int)]).headD (-1) = (posOf x 0 (l.take n)).headD (-1) := by
          cases h : posOf x 0 (l.take n) with
          | nil => exact absurd h hp
          | cons => rfl
        have e2 : (posOf x 0 (l.take n) ++ [(n : Int)]).getLastD (-1) = (n : Int) := by simp
        rw [e1, e2] at ih
        exact ih
    · rw [if_neg hx, List.append_nil] at ih
      exact ev_neg hx ih
theorem l01Waits_ev (l : List Int) (x : Int) (hl : l.length ≤ 1048576) : Ev (fun k => spec_l01Waits.f k l x) (waitsOf l x) := by
  unfold spec_l01Waits.f
  simpa [posOf, diffs] using l01Waits_l0 l x hl l.length 0 (by omega)
theorem Waits_impl_l1 (l : List Int) (x : Int) (hl : l.length ≤ 1048576) : ∀ d n : Nat, n + d = (posOf x 0 l).length →
    Ev (fun k => impl_waits.l1 k l (posOf x 0 l) ((waitsOf l x).take n) (posOf x 0 l) ((posOf x 0 l).length : Int) (n : Int)) (waitsOf l x) := by
  intro d
  induction d with
  | zero =>
    intro n hn
    rw [List.take_of_length_le (by rw [waitsOf_length]; omega)]
    exact Ev.step (fun k => by rw [impl_waits.l1]) (ev_neg (by omega) (ev_now _))
  | succ d ih =>
    intro n hn
    have hlen := posOf_length x l 0
    have hlt : n < (posOf x 0 l).length := by omega
    have hp : posOf x 0 l ≠ [] := fun h => by rw [h] at hlt; simp at hlt
    have hb := posOf_rd hlt
    have ht : ((waitsOf l x).take n).length < 17592186044416 := by rw [List.length_take, waitsOf_length]; omega
    refine Ev.step (fun k => by rw [impl_waits.l1]) (ev_pos (by omega) (ev_pos (by omega) (ev_pos (by omega) ?_)))
    rw [wrap_succ (by omega)]
    have hlt2 : n < (waitsOf l x).length := by rw [waitsOf_length]; exact hlt
    have ih := ih (n + 1) (by omega)
    rw [List.take_succ_eq_append_getElem hlt2] at ih
    by_cases h1 : n + 1 < (posOf x 0 l).length
    · have hb1 := posOf_rd h1
      refine ev_pos (by omega) (ev_pos (by omega) (ev_pos ht ?_))
      rw [wrap_id (by omega) (by omega)]
      have e : (waitsOf l x)[n] = rd (posOf x 0 l) ((n + 1 : Nat) : Int) - rd (posOf x 0 l) (n : Int) := by
        have h2 : (waitsOf l x)[n]? = some (rd (posOf x 0 l) ((n + 1 : Nat) : Int) - rd (posOf x 0 l) (n : Int)) := by
          rw [waitsOf, if_neg hp, List.getElem?_append_left (by rw [diffs_length]; omega), diffs_get _ _ h1]
          simp only [rd, Int.toNat_natCast]
        rw [List.getElem?_eq_getElem hlt2] at h2
        exact Option.some.inj h2
      rw [e] at ih
      exact ih
    · have hb0 := posOf_rd (x := x) (l := l) (i := 0) (by omega)
      refine ev_neg (by omega) (ev_pos (by omega) (ev_fix (show impl_length_int64.f l = some (l.length : Int) from rfl) (ev_pos ht ?_)))
      have hb0 : 0 ≤ rd (posOf x 0 l) 0 ∧ rd (posOf x 0 l) 0 < l.length := hb0
      rw [wrap_id (x := rd (posOf x 0 l) 0 + _) (by omega) (by omega), wrap_id (by omega) (by omega)]
      have e : (waitsOf l x)[n] = rd (posOf x 0 l) 0 + (l.length : Int) - rd (posOf x 0 l) (n : Int) := by
        have h2 : (waitsOf l x)[n]? = some (rd (posOf x 0 l) 0 + (l.length : Int) - rd (posOf x 0 l) (n : Int)) := by
          have hn1 : n = (diffs (posOf x 0 l)).length := by rw [diffs_length]; omega
          rw [waitsOf, if_neg hp, List.getElem?_append_right (by omega), show n - (diffs (posOf x 0 l)).length = 0 by omega, List.getElem?_cons_zero]
          congr 1
          have e1 : (posOf x 0 l).headD (-1) = rd (posOf x 0 l) 0 := by
            cases h : posOf x 0 l with
            | nil => exact absurd h hp
            | cons => rfl
          have e2 : (posOf x 0 l).getLastD (-1) = rd (posOf x 0 l) (n : Int) := by
            rw [rd_nat hlt, List.getLastD_eq_getLast?, List.getLast?_eq_getElem?, show (posOf x 0 l).length - 1 = n by omega, List.getElem?_eq_getElem hlt]
            rfl
          rw [e1, e2]
          omega
        rw [List.getElem?_eq_getElem hlt2] at h2
        exact Option.some.inj h2
      rw [e] at ih
      exact ih
theorem Waits_impl_l0 (l : List Int) (x : Int) (hl : l.length ≤ 1048576) : ∀ d n : Nat, n + d = l.length →
    Ev (fun k => impl_waits.l0 k l x (posOf x 0 (l.take n)) l (l.length : Int) (n : Int)) (waitsOf l x) := by
  intro d
  induction d with
  | zero =>
    intro n hn
    rw [List.take_of_length_le (by omega)]
    refine Ev.step (fun k => by rw [impl_waits.l0]) (ev_neg (by omega) ?_)
    exact Waits_impl_l1 l x hl (posOf x 0 l).length 0 (by omega)
  | succ d ih =>
    intro n hn
    have hlt : n < l.length := by omega
    refine Ev.step (fun k => by rw [impl_waits.l0]) (ev_pos (by omega) (ev_pos (by omega) (ev_pos (by omega) ?_)))
    rw [rd_nat hlt, wrap_succ (by omega)]
    have ih := ih (n + 1) (by omega)
    rw [posOf_take_succ x l n hlt] at ih
    have hlen := posOf_length x (l.take n) 0
    rw [List.length_take] at hlen
    by_cases hx : l[n] = x
    · rw [if_pos hx] at ih
      exact ev_pos hx (ev_pos (by omega) ih)
    · rw [if_neg hx, List.append_nil] at ih
      exact ev_neg hx ih
theorem waits_ev (l : List Int) (x : Int) (hl : l.length ≤ 1048576) : Ev (fun k => impl_waits.f k l x) (waitsOf l x) := by
  unfold impl_waits.f
  simpa [posOf] using Waits_impl_l0 l x hl l.length 0 (by omega)
end Go.Proofs.Ytjkgjmaldbmgmaa.Pure
end
section
namespace Go.Proofs.Ytjkgjmaldbmgmaa.Pure
open Go.RowKit Go.Proofs.Ytjkgjmaldbmgmaa.P Go.Proofs.YtjkgjmaldbmgmaaW.PrintWords Go.Proofs.YtjkgjmaldbmgmaaW.PrintLast Go.Proofs.YtjkgjmaldbmgmaaW.PrintMore
set_option linter.unusedVariables false
set_option linter.unusedSimpArgs false
theorem Greatest_spec_l0 (l : List Int) (hl : l.length ≤ 1048576) : ∀ d n : Nat, n + d = l.length →
    Ev (fun k => spec_l01Greatest.l0 k l (great (l.take n)) (n : Int)) (great l) := by
  intro d
  induction d with
  | zero =>
    intro n hn
    rw [List.take_of_length_le (by omega)]
    exact Ev.step (fun k => by rw [spec_l01Greatest.l0]) (ev_neg (by omega) (ev_now _))
  | succ d ih =>
    intro n hn
    have hlt : n < l.length := by omega
    refine Ev.step (fun k => by rw [spec_l01Greatest.l0]) (ev_pos (by omega) (ev_pos (by omega) ?_))
    rw [rd_nat hlt, wrap_succ (by omega), ← great_take_succ l n hlt]
    exact ih (n + 1) (by omega)
theorem waitsOf_len (l : List Int) (x : Int) : (waitsOf l x).length ≤ l.length := by rw [waitsOf_length]; exact posOf_length x l 0
theorem l01Greatest_ev (l : List Int) (x : Int) (hl : l.length ≤ 1048576) : Ev (fun k => spec_l01Greatest.f k l x) (great (waitsOf l x)) := by
  unfold spec_l01Greatest.f
  exact ev_bind (l01Waits_ev l x hl) (Greatest_spec_l0 _ (by have := waitsOf_len l x; omega) (waitsOf l x).length 0 (by omega))
theorem greatest_l0 (l : List Int) (hl : l.length ≤ 1048576) : ∀ d n : Nat, n + d = l.length →
    Ev (fun k => impl_greatest.l0 k (great (l.take n)) l (l.length : Int) (n : Int)) (great l) := by
  intro d
  induction d with
  | zero =>
    intro n hn
    rw [List.take_of_length_le (by omega)]
    exact Ev.step (fun k => by rw [impl_greatest.l0]) (ev_neg (by omega) (ev_now _))
  | succ d ih =>
    intro n hn
    have hlt : n < l.length := by omega
    refine Ev.step (fun k => by rw [impl_greatest.l0]) (ev_pos (by omega) (ev_pos (by omega) (ev_pos (by omega) ?_)))
    rw [rd_nat hlt, wrap_succ (by omega), ← great_take_succ l n hlt]
    exact ih (n + 1) (by omega)
theorem greatest_ev (l : List Int) (hl : l.length ≤ 1048576) : Ev (fun k => impl_greatest.f k l) (great l) := by
  unfold impl_greatest.f
  exact greatest_l0 l hl l.length 0 (by omega)
end Go.Proofs.Ytjkgjmaldbmgmaa.Pure
end
section
namespace Go.Proofs.Ytjkgjmaldbmgmaa.Pure
open Go.RowKit Go.Proofs.Ytjkgjmaldbmgmaa.P Go.Proofs.YtjkgjmaldbmgmaaW.PrintWords Go.Proofs.YtjkgjmaldbmgmaaW.PrintLast Go.Proofs.YtjkgjmaldbmgmaaW.PrintMore
set_option linter.unusedVariables false
set_option linter.unusedSimpArgs false
def chanHas (l : List (List Int)) (s : Nat) (i : Int) : Int := cnt i (l.map fun t => rd t (s : Int))
theorem chanHas_succ (l : List (List Int)) (s : Nat) (i : Int) (n : Nat) (h : n < l.length) : chanHas (l.take (n + 1)) s i = chanHas (l.take n) s i + (if rd l[n] (s : Int) = i then 1 else 0) := by
  unfold chanHas
  rw [List.take_succ_eq_append_getElem h, List.map_append, cnt_append]
  simp [cnt]
theorem chanHas_bounds (l : List (List Int)) (s : Nat) (i : Int) : 0 ≤ chanHas l s i ∧ chanHas l s i ≤ l.length := by
  have := cnt_bounds i (l.map fun t => rd t (s : Int))
  rw [List.length_map] at this
  exact this
structure Chan (k : Int) (l : List (List Int)) : Prop where
  k8 : 1 ≤ k ∧ k ≤ 8
  len : 1 ≤ l.length ∧ l.length ≤ 4
  turns : ∀ x ∈ l, isTurns x k = true
  row : ∀ x ∈ l, x.length = (rd_L1 l 0).length
  slots : 1 ≤ (rd_L1 l 0).length ∧ (rd_L1 l 0).length ≤ 120
theorem isChan_chan {k : Int} {l : List (List Int)} (h : isChan k l = true) : Chan k l := by
  unfold isChan at h
  rw [Bool.and_eq_true, Bool.and_eq_true, List.all_eq_true] at h
  obtain ⟨h1, h2, h3⟩ := h
  have h1 := of_decide_eq_true h1
  have h2 := of_decide_eq_true h2
  have h4 : ∀ x ∈ l, isTurns x k = true ∧ x.length = (rd_L1 l 0).length := fun x hx => by
    have := h3 x hx
    unfold chanB at this
    rw [Bool.and_eq_true, turnsB_eq, beq_iff_eq] at this
    exact ⟨this.1, by omega⟩
  have h0 : (0 : Int) = ((0 : Nat) : Int) := rfl
  have hm : rd_L1 l 0 ∈ l := by
    rw [h0, rdL_nat (by omega)]
    exact List.getElem_mem (by omega)
  exact ⟨h1, by omega, fun x hx => (h4 x hx).1, fun x hx => (h4 x hx).2, isTurns_len (h4 _ hm).1⟩
theorem l08Has_ev (k : Int) (l : List (List Int)) (C : Chan k l) (s : Nat) (hs : s < (rd_L1 l 0).length) (i : Int) : Ev (fun q => spec_l08Has.f q l (s : Int) i) (chanHas l s i) := by
  have hl := C.len
  have main : ∀ d n : Nat, n + d = l.length → Ev (fun q => spec_l08Has.l0 q l (s : Int) i (chanHas (l.take n) s i) (n : Int)) (chanHas l s i) := by
    intro d
    induction d with
    | zero =>
      intro n hn
      rw [List.take_of_length_le (by omega)]
      refine Ev.step (fun q => by rw [spec_l08Has.l0]) ?_
      exact ev_neg (by omega) (ev_now _)
    | succ d ih =>
      intro n hn
      have hlt : n < l.length := by omega
      have hr := C.row _ (List.getElem_mem hlt)
      have hb := chanHas_bounds (l.take n) s i
      rw [List.length_take] at hb
      have ih := ih (n + 1) (by omega)
      rw [chanHas_succ _ _ _ _ hlt] at ih
      refine Ev.step (fun q => by rw [spec_l08Has.l0]) ?_
      rw [rdL_nat hlt, wrap_succ (by omega)]
      refine ev_pos (by omega) (ev_pos (by omega) (ev_pos (by omega) (ev_pos (by omega) ?_)))
      by_cases c : rd l[n] (s : Int) = i
      · rw [if_pos c] at ih
        refine ev_pos c ?_
        rw [wrap_id (by omega) (by omega)]
        exact ih
      · rw [if_neg c, Int.add_zero] at ih
        exact ev_neg c ih
  unfold spec_l08Has.f
  exact main l.length 0 (by omega)
def tog (l : List (List Int)) (i : Int) (N : Nat) : List Int := tab (fun s => if chanHas l s i > 0 then i else -1) N
theorem l08Wait_ev (k : Int) (l : List (List Int)) (C : Chan k l) (i : Int) : Ev (fun q => spec_l08Wait.f q l i) (great (waitsOf (tog l i (rd_L1 l 0).length) i)) := by
  have hl := C.len
  have hN := C.slots
  have main : ∀ d n : Nat, n + d = (rd_L1 l 0).length → Ev (fun q => spec_l08Wait.l0 q l i (tog l i n) (n : Int)) (great (waitsOf (tog l i (rd_L1 l 0).length) i)) := by
    intro d
    induction d with
    | zero =>
      intro n hn
      obtain rfl : n = (rd_L1 l 0).length := by omega
      refine Ev.step (fun q => by rw [spec_l08Wait.l0]) ?_
      exact ev_pos (by omega) (ev_neg (by omega) (ev_bind (l01Greatest_ev _ i (by rw [tog, tab_length]; omega)) (ev_now _)))
    | succ d ih =>
      intro n hn
      have ih := ih (n + 1) (by omega)
      rw [tog, tab_succ] at ih
      refine Ev.step (fun q => by rw [spec_l08Wait.l0]) ?_
      rw [wrap_succ (by omega)]
      refine ev_pos (by omega) (ev_pos (by omega) (ev_bind (l08Has_ev k l C n (by omega) i) ?_))
      by_cases c : chanHas l n i > 0
      · rw [if_pos c] at ih
        exact ev_pos c (ev_pos (by rw [tog, tab_length]; omega) ih)
      · rw [if_neg c] at ih
        exact ev_neg c (ev_pos (by rw [tog, tab_length]; omega) ih)
  unfold spec_l08Wait.f
  exact main (rd_L1 l 0).length 0 (by omega)
theorem together_l1 (k : Int) (l : List (List Int)) (C : Chan k l) (i : Int) (c : Nat) (hc : c < l.length) (R : List Int)
    (hR : Ev (fun q => impl_together.l0 q i (tog (l.take (c + 1)) i (rd_L1 l 0).length) l (l.length : Int) ((c + 1 : Nat) : Int)) R) : ∀ d n : Nat, n + d = (rd_L1 l 0).length →
    Ev (fun q => impl_together.l1 q i (tab (fun s => if s < n then (if chanHas (l.take (c + 1)) s i > 0 then i else -1) else (if chanHas (l.take c) s i > 0 then i else -1)) (rd_L1 l 0).length) l (l.length : Int) (c : Int) l[c] (l[c].length : Int) (n : Int)) R := by
  have hl := C.len
  have hN := C.slots
  have hr := C.row _ (List.getElem_mem hc)
  intro d
  induction d with
  | zero =>
    intro n hn
    refine Ev.step (fun q => by rw [impl_together.l1]) ?_
    rw [wrap_succ (n := c) (by omega)]
    refine ev_neg (by omega) ?_
    rw [tab_congr (g := fun s => if chanHas (l.take (c + 1)) s i > 0 then i else -1) (fun s hs => by rw [if_pos (by omega)])]
    exact hR
  | succ d ih =>
    intro n hn
    have ih := ih (n + 1) (by omega)
    have hb := chanHas_bounds (l.take c) n i
    refine Ev.step (fun q => by rw [impl_together.l1]) ?_
    rw [wrap_succ (n := n) (by omega), Int.toNat_natCast]
    refine ev_pos (by omega) (ev_pos (by omega) (ev_pos (by omega) ?_))
    by_cases e : rd l[c] (n : Int) = i
    · refine ev_pos e (ev_pos (by rw [tab_length]; omega) ?_)
      rw [tab_set, tab_congr (g := fun s => if s < n + 1 then (if chanHas (l.take (c + 1)) s i > 0 then i else -1) else (if chanHas (l.take c) s i > 0 then i else -1)) (fun s hs => by
        by_cases e1 : s = n
        · subst e1
          rw [if_pos rfl, if_pos (show s < s + 1 by omega), if_pos (show chanHas (l.take (c + 1)) s i > 0 by rw [chanHas_succ _ _ _ _ hc, if_pos e]; omega)]
        · rw [if_neg e1]
          by_cases e2 : s < n
          · rw [if_pos e2, if_pos (show s < n + 1 by omega)]
          · rw [if_neg e2, if_neg (show ¬ s < n + 1 by omega)])]
      exact ih
    · refine ev_neg e ?_
      rw [tab_congr (g := fun s => if s < n + 1 then (if chanHas (l.take (c + 1)) s i > 0 then i else -1) else (if chanHas (l.take c) s i > 0 then i else -1)) (fun s hs => by
        by_cases e1 : s = n
        · subst e1
          rw [if_neg (show ¬ s < s by omega), if_pos (show s < s + 1 by omega), chanHas_succ _ _ _ _ hc, if_neg e, Int.add_zero]
        · by_cases e2 : s < n
          · rw [if_pos e2, if_pos (show s < n + 1 by omega)]
          · rw [if_neg e2, if_neg (show ¬ s < n + 1 by omega)])]
      exact ih
theorem together_l0 (k : Int) (l : List (List Int)) (C : Chan k l) (i : Int) : ∀ d c : Nat, c + d = l.length →
    Ev (fun q => impl_together.l0 q i (tog (l.take c) i (rd_L1 l 0).length) l (l.length : Int) (c : Int)) (tog l i (rd_L1 l 0).length) := by
  have hl := C.len
  intro d
  induction d with
  | zero =>
    intro c hc
    rw [List.take_of_length_le (by omega)]
    refine Ev.step (fun q => by rw [impl_together.l0]) ?_
    exact ev_neg (by omega) (ev_now _)
  | succ d ih =>
    intro c hc
    have hlt : c < l.length := by omega
    have h := together_l1 k l C i c hlt _ (ih (c + 1) (by omega)) (rd_L1 l 0).length 0 (by omega)
    rw [tab_congr (g := fun s => if chanHas (l.take c) s i > 0 then i else -1) (fun s hs => by rw [if_neg (by omega)])] at h
    refine Ev.step (fun q => by rw [impl_together.l0]) ?_
    rw [rdL_nat hlt]
    exact ev_pos (by omega) (ev_pos (by omega) (ev_pos (by omega) h))
theorem together_ev (k : Int) (l : List (List Int)) (C : Chan k l) (i : Int) : Ev (fun q => impl_together.f q l i) (tog l i (rd_L1 l 0).length) := by
  have hl := C.len
  have hN := C.slots
  unfold impl_together.f
  refine ev_pos (by omega) (ev_fix (a := List.replicate (rd_L1 l 0).length (-1)) (by
    unfold slices_Repeat_Sint64_int64.f
    rw [if_pos ⟨rfl, by omega, by omega⟩, Int.toNat_natCast]
    rfl) ?_)
  have h := together_l0 k l C i l.length 0 (by omega)
  rw [show tog (l.take 0) i (rd_L1 l 0).length = List.replicate (rd_L1 l 0).length (-1) by
    refine (tab_ext (by simp) fun s hs => ?_).symm
    simp [chanHas, cnt]] at h
  exact h
end Go.Proofs.Ytjkgjmaldbmgmaa.Pure
end
section
namespace Go.Proofs.Ytjkgjmaldbmgmaa.Pure
open Go.RowKit Go.Proofs.Ytjkgjmaldbmgmaa.P Go.Proofs.YtjkgjmaldbmgmaaW.PrintWords Go.Proofs.YtjkgjmaldbmgmaaW.PrintLast Go.Proofs.YtjkgjmaldbmgmaaW.PrintMore
set_option linter.unusedVariables false
set_option linter.unusedSimpArgs false
def clI (l : List (List Int)) (s : Nat) : Nat → Nat → List (List Int) → List (List Int)
  | 0, _, acc => acc
  | d + 1, i, acc => clI l s d (i + 1) (if chanHas l s (i : Int) > 1 then acc ++ [[(s : Int), (i : Int)]] else acc)
def clS (l : List (List Int)) (k : Nat) : Nat → Nat → List (List Int) → List (List Int)
  | 0, _, acc => acc
  | d + 1, s, acc => clS l k d (s + 1) (clI l s k 0 acc)
def clashL (l : List (List Int)) (k : Nat) : List (List Int) := clS l k (rd_L1 l 0).length 0 []
theorem clI_length (l : List (List Int)) (s : Nat) : ∀ d i acc, (clI l s d i acc).length ≤ acc.length + d := by
  intro d
  induction d with
  | zero => intro i acc; exact Nat.le_refl _
  | succ d ih =>
    intro i acc
    have h := ih (i + 1) (if chanHas l s (i : Int) > 1 then acc ++ [[(s : Int), (i : Int)]] else acc)
    rw [clI]
    split at h
    · next c => rw [if_pos c]; rw [List.length_append, List.length_singleton] at h; omega
    · next c => rw [if_neg c]; omega
theorem spec_clashes_l1 (k : Int) (l : List (List Int)) (C : Chan k l) (s : Nat) (hs : s < (rd_L1 l 0).length) (R : List (List Int)) : ∀ d i : Nat, ((i + d : Nat) : Int) = k → ∀ acc : List (List Int), acc.length + d ≤ 1000000 →
    Ev (fun q => spec_l08Clashes.l0 q k l (clI l s d i acc) ((s + 1 : Nat) : Int)) R → Ev (fun q => spec_l08Clashes.l1 q k l acc (s : Int) (i : Int)) R := by
  have hN := C.slots
  have hk := C.k8
  intro d
  induction d with
  | zero =>
    intro i hi acc _ hR
    refine Ev.step (fun q => by rw [spec_l08Clashes.l1]) ?_
    rw [wrap_succ (n := s) (by omega)]
    exact ev_neg (by omega) hR
  | succ d ih =>
    intro i hi acc ha hR
    refine Ev.step (fun q => by rw [spec_l08Clashes.l1]) ?_
    rw [wrap_succ (n := i) (by omega)]
    refine ev_pos (by omega) (ev_bind (l08Has_ev k l C s hs i) ?_)
    have ih := ih (i + 1) (by omega) (if chanHas l s (i : Int) > 1 then acc ++ [[(s : Int), (i : Int)]] else acc)
    by_cases c : chanHas l s (i : Int) > 1
    · rw [if_pos c] at ih
      rw [clI, if_pos c] at hR
      exact ev_pos c (ev_pos (by omega) (ih (by rw [List.length_append, List.length_singleton]; omega) hR))
    · rw [if_neg c] at ih
      rw [clI, if_neg c] at hR
      exact ev_neg c (ih (by omega) hR)
theorem l08Clashes_ev (k : Int) (l : List (List Int)) (C : Chan k l) : Ev (fun q => spec_l08Clashes.f q k l) (clashL l k.toNat) := by
  have hl := C.len
  have hN := C.slots
  have hk := C.k8
  have main : ∀ d s : Nat, s + d = (rd_L1 l 0).length → ∀ acc : List (List Int), acc.length + 8 * d ≤ 100000 → Ev (fun q => spec_l08Clashes.l0 q k l acc (s : Int)) (clS l k.toNat d s acc) := by
    intro d
    induction d with
    | zero =>
      intro s hs acc _
      refine Ev.step (fun q => by rw [spec_l08Clashes.l0]) ?_
      exact ev_pos (by omega) (ev_neg (by omega) (ev_now _))
    | succ d ih =>
      intro s hs acc ha
      have h1 := clI_length l s k.toNat 0 acc
      refine Ev.step (fun q => by rw [spec_l08Clashes.l0]) ?_
      exact ev_pos (by omega) (ev_pos (by omega) (spec_clashes_l1 k l C s (by omega) _ k.toNat 0 (by omega) acc (by omega) (ih (s + 1) (by omega) _ (by omega))))
  unfold spec_l08Clashes.f
  exact main (rd_L1 l 0).length 0 (by omega) [] (by simp; omega)
theorem impl_clashes_l2 (k : Int) (l : List (List Int)) (C : Chan k l) (s i : Nat) (hs : s < (rd_L1 l 0).length) (hi : (i : Int) < k) (acc : List (List Int)) (ha : acc.length ≤ 1000000) (R : List (List Int))
    (hR : Ev (fun q => impl_clashes.l1 q k l (if chanHas l s (i : Int) > 1 then acc ++ [[(s : Int), (i : Int)]] else acc) (s : Int) ((rd_L1 l 0).length : Int) (s : Int) k ((i + 1 : Nat) : Int)) R) : ∀ d n : Nat, n + d = l.length →
    Ev (fun q => impl_clashes.l2 q k l acc (s : Int) (i : Int) (chanHas (l.take n) s i) ((rd_L1 l 0).length : Int) (s : Int) k (i : Int) l (l.length : Int) (n : Int)) R := by
  have hl := C.len
  have hN := C.slots
  have hk := C.k8
  intro d
  induction d with
  | zero =>
    intro n hn
    rw [List.take_of_length_le (by omega)]
    refine Ev.step (fun q => by rw [impl_clashes.l2]) ?_
    rw [wrap_succ (n := i) (by omega)]
    refine ev_neg (by omega) ?_
    by_cases c : chanHas l s (i : Int) > 1
    · rw [if_pos c] at hR
      exact ev_pos c (ev_pos (by omega) hR)
    · rw [if_neg c] at hR
      exact ev_neg c hR
  | succ d ih =>
    intro n hn
    have hlt : n < l.length := by omega
    have hr := C.row _ (List.getElem_mem hlt)
    have hb := chanHas_bounds (l.take n) s i
    rw [List.length_take] at hb
    have ih := ih (n + 1) (by omega)
    rw [chanHas_succ _ _ _ _ hlt] at ih
    refine Ev.step (fun q => by rw [impl_clashes.l2]) ?_
    rw [rdL_nat hlt, wrap_succ (n := n) (by omega)]
    refine ev_pos (by omega) (ev_pos (by omega) (ev_pos (by omega) (ev_pos (by omega) (ev_pos (by omega) ?_))))
    by_cases c : rd l[n] (s : Int) = (i : Int)
    · rw [if_pos c] at ih
      refine ev_pos c ?_
      rw [wrap_id (by omega) (by omega)]
      exact ih
    · rw [if_neg c, Int.add_zero] at ih
      exact ev_neg c ih
theorem impl_clashes_l1 (k : Int) (l : List (List Int)) (C : Chan k l) (s : Nat) (hs : s < (rd_L1 l 0).length) (R : List (List Int)) : ∀ d i : Nat, ((i + d : Nat) : Int) = k → ∀ acc : List (List Int), acc.length + d ≤ 1000000 →
    Ev (fun q => impl_clashes.l0 q k l (clI l s d i acc) ((rd_L1 l 0).length : Int) ((s + 1 : Nat) : Int)) R → Ev (fun q => impl_clashes.l1 q k l acc (s : Int) ((rd_L1 l 0).length : Int) (s : Int) k (i : Int)) R := by
  have hN := C.slots
  have hk := C.k8
  intro d
  induction d with
  | zero =>
    intro i hi acc _ hR
    refine Ev.step (fun q => by rw [impl_clashes.l1]) ?_
    rw [wrap_succ (n := s) (by omega)]
    exact ev_neg (by omega) hR
  | succ d ih =>
    intro i hi acc ha hR
    have h0 := impl_clashes_l2 k l C s i hs (by omega) acc (by omega) R ?_ l.length 0 (by omega)
    · refine Ev.step (fun q => by rw [impl_clashes.l1]) ?_
      exact ev_pos (by omega) h0
    · rw [clI] at hR
      refine ih (i + 1) (by omega) _ ?_ hR
      split
      · rw [List.length_append, List.length_singleton]; omega
      · omega
theorem clashes_ev (k : Int) (l : List (List Int)) (C : Chan k l) : Ev (fun q => impl_clashes.f q k l) (clashL l k.toNat) := by
  have hl := C.len
  have hN := C.slots
  have hk := C.k8
  have main : ∀ d s : Nat, s + d = (rd_L1 l 0).length → ∀ acc : List (List Int), acc.length + 8 * d ≤ 100000 → Ev (fun q => impl_clashes.l0 q k l acc ((rd_L1 l 0).length : Int) (s : Int)) (clS l k.toNat d s acc) := by
    intro d
    induction d with
    | zero =>
      intro s hs acc _
      refine Ev.step (fun q => by rw [impl_clashes.l0]) ?_
      exact ev_neg (by omega) (ev_now _)
    | succ d ih =>
      intro s hs acc ha
      have h1 := clI_length l s k.toNat 0 acc
      refine Ev.step (fun q => by rw [impl_clashes.l0]) ?_
      exact ev_pos (by omega) (impl_clashes_l1 k l C s (by omega) _ k.toNat 0 (by omega) acc (by omega) (ih (s + 1) (by omega) _ (by omega)))
  unfold impl_clashes.f
  exact ev_pos (by omega) (main (rd_L1 l 0).length 0 (by omega) [] (by simp; omega))
end Go.Proofs.Ytjkgjmaldbmgmaa.Pure
end
section
namespace Go.Proofs.Ytjkgjmaldbmgmaa.Pure
open Go.RowKit Go.Proofs.Ytjkgjmaldbmgmaa.P Go.Proofs.YtjkgjmaldbmgmaaW.PrintWords Go.Proofs.YtjkgjmaldbmgmaaW.PrintLast Go.Proofs.YtjkgjmaldbmgmaaW.PrintMore
set_option linter.unusedVariables false
set_option linter.unusedSimpArgs false
theorem toTasks_ev (l : List Int) (hl : l.length ≤ 1048576) : Ev (fun k => laws_toTasks.f k l) l := by
  unfold laws_toTasks.f
  exact ev_bind (toInt64S_ev l (by omega)) (ev_now _)
theorem eqTasks_ev (l : List Int) (hl : l.length ≤ 1048576) : Ev (fun k => laws_eqTasks.f k l l) true := by
  unfold laws_eqTasks.f
  exact ev_bind (eqInt64S_ev l (by omega)) (ev_pos rfl (ev_now _))
end Go.Proofs.Ytjkgjmaldbmgmaa.Pure
end
section
namespace Go.Proofs.Ytjkgjmaldbmgmaa.Pure
open Go.RowKit Go.Proofs.Ytjkgjmaldbmgmaa.P Go.Proofs.YtjkgjmaldbmgmaaW.PrintWords Go.Proofs.YtjkgjmaldbmgmaaW.PrintLast Go.Proofs.YtjkgjmaldbmgmaaW.PrintMore
set_option linter.unusedVariables false
set_option linter.unusedSimpArgs false
/-- tasks: 1 to 8 gaps in 1..40 -/
def isTasks (l : List Int) : Bool := decide (1 ≤ (l.length : Int) ∧ (l.length : Int) ≤ 8) && l.all fun g => decide (1 ≤ g ∧ g ≤ 40)
theorem IsTasks_f (l : List Int) : impl_IsTasks.f l = some (isTasks l) := rfl
theorem isTasks_iff (l : List Int) : isTasks l = true ↔ (1 ≤ l.length ∧ l.length ≤ 8) ∧ (∀ x ∈ l, 1 ≤ x ∧ x ≤ 40) := by
  unfold isTasks
  rw [Bool.and_eq_true, List.all_eq_true, decide_eq_true_iff]
  simp only [decide_eq_true_iff]
  constructor
  · rintro ⟨h1, h2⟩; exact ⟨by omega, h2⟩
  · rintro ⟨h1, h2⟩; exact ⟨by omega, h2⟩
theorem l01Is_l0 (l : List Int) (hl : l.length ≤ 1048576) : ∀ d n : Nat, n + d = l.length → (l.take n).all (fun g => decide (1 ≤ g ∧ g ≤ 40)) = true → Ev (fun k => spec_l01Is.l0 k (n : Int) l) (isTasks l) := by
  intro d
  induction d with
  | zero =>
    intro n hn ha
    refine Ev.step (fun k => by rw [spec_l01Is.l0]) ?_
    refine ev_neg (by omega) (ev_fix (show spec_l01K.f l = some (l.length : Int) from rfl) (ev_fix (l01In_f _ _ _) (ev_is ?_)))
    rw [List.take_of_length_le (by omega)] at ha
    rw [isTasks, ha, Bool.and_true]
  | succ d ih =>
    intro n hn ha
    have hlt : n < l.length := by omega
    refine Ev.step (fun k => by rw [spec_l01Is.l0]) (ev_pos (by omega) (ev_pos (by omega) (ev_fix (l01In_f _ _ _) ?_)))
    rw [rd_nat hlt]
    cases hq : decide (1 ≤ l[n] ∧ l[n] ≤ 40) with
    | true =>
      refine ev_pos rfl ?_
      rw [wrap_succ (by omega)]
      exact ih (n + 1) (by omega) (by rw [all_take_succ _ _ _ hlt, ha, hq]; rfl)
    | false =>
      refine ev_neg (by simp) (ev_is ?_)
      rw [isTasks, all_false_at _ l n hlt hq, Bool.and_false]
theorem l01Is_ev (l : List Int) (hl : l.length ≤ 1048576) : Ev (fun k => spec_l01Is.f k l) (isTasks l) := by
  unfold spec_l01Is.f
  exact l01Is_l0 l hl l.length 0 (by omega) (by simp)
end Go.Proofs.Ytjkgjmaldbmgmaa.Pure
end
section
namespace Go.Proofs.Ytjkgjmaldbmgmaa.Pure
open Go.RowKit Go.Proofs.Ytjkgjmaldbmgmaa.P Go.Proofs.YtjkgjmaldbmgmaaW.PrintWords Go.Proofs.YtjkgjmaldbmgmaaW.PrintLast Go.Proofs.YtjkgjmaldbmgmaaW.PrintMore
set_option linter.unusedVariables false
set_option linter.unusedSimpArgs false
def servT (G : List Int) (l : List (List Int)) : Nat → Nat → Bool
  | 0, _ => true
  | d + 1, i => if great (waitsOf (tog l (i : Int) (rd_L1 l 0).length) (i : Int)) = 0 then false else if great (waitsOf (tog l (i : Int) (rd_L1 l 0).length) (i : Int)) > rd G (i : Int) then false else servT G l d (i + 1)
def servTR (G : List Int) (l : List (List Int)) : Bool × Int := if isTasks G = true then (if isChan (G.length : Int) l = true then (if ((clashL l G.length).length : Int) > 0 then (false, 5) else (servT G l G.length 0, 0)) else (false, 2)) else (false, 1)
theorem ServeTogether_spec (G : List Int) (l : List (List Int)) (hG : G.length ≤ 1048576) (hx : ∀ x ∈ l, x.length ≤ 1048576) : Ev (fun q => spec_ServeTogether.f q G l) (servTR G l) := by
  unfold spec_ServeTogether.f servTR
  refine ev_bind (l01Is_ev G hG) ?_
  cases ht : isTasks G with
  | false => exact ev_neg (by simp) (ev_now _)
  | true =>
    rw [if_pos rfl]
    refine ev_pos rfl (ev_fix (show spec_l01K.f G = some (G.length : Int) from rfl) (ev_bind (l08Are_ev _ l hx) ?_))
    cases h : isChan (G.length : Int) l with
    | false => exact ev_neg (by simp) (ev_now _)
    | true =>
      have C := isChan_chan h
      have hcl := l08Clashes_ev _ l C
      rw [Int.toNat_natCast] at hcl
      rw [if_pos rfl]
      refine ev_pos rfl (ev_fix (show spec_l01K.f G = some (G.length : Int) from rfl) (ev_bind hcl ?_))
      by_cases c : ((clashL l G.length).length : Int) > 0
      · rw [if_pos c]
        exact ev_pos c (ev_now _)
      · rw [if_neg c]
        refine ev_neg c ?_
        have main : ∀ d n : Nat, n + d = G.length → Ev (fun q => spec_ServeTogether.l0 q l (n : Int) G) (servT G l d n, 0) := by
          intro d
          induction d with
          | zero =>
            intro n hn
            refine Ev.step (fun q => by rw [spec_ServeTogether.l0]) (ev_fix (show spec_l01K.f G = some (G.length : Int) from rfl) ?_)
            exact ev_neg (by omega) (ev_now _)
          | succ d ih =>
            intro n hn
            refine Ev.step (fun q => by rw [spec_ServeTogether.l0]) (ev_fix (show spec_l01K.f G = some (G.length : Int) from rfl) ?_)
            rw [wrap_succ (by omega), servT]
            refine ev_pos (by omega) (ev_bind (l08Wait_ev _ l C n) ?_)
            by_cases c1 : great (waitsOf (tog l (n : Int) (rd_L1 l 0).length) (n : Int)) = 0
            · rw [if_pos c1]
              exact ev_pos c1 (ev_now _)
            · rw [if_neg c1]
              refine ev_neg c1 (ev_pos (by omega) (ev_pos (by omega) ?_))
              by_cases c2 : great (waitsOf (tog l (n : Int) (rd_L1 l 0).length) (n : Int)) > rd G (n : Int)
              · rw [if_pos c2]
                exact ev_pos c2 (ev_now _)
              · rw [if_neg c2]
                exact ev_neg c2 (ih (n + 1) (by omega))
        exact main G.length 0 (by omega)
theorem ServeTogether_impl (G : List Int) (l : List (List Int)) (hG : G.length ≤ 1048576) : Ev (fun q => impl_ServeTogether.f q G l) (servTR G l) := by
  unfold impl_ServeTogether.f servTR
  refine ev_fix (show impl_Tasks_many.f G = some (G.length : Int) from rfl) (ev_fix (areChannels_f _ l) (ev_fix (a := if isTasks G = true then (if isChan (mx (G.length : Int) 1) l = true then 0 else 2) else 1) ?_ ?_))
  · unfold impl_tasksCode.f
    rw [IsTasks_f, Option.bind_some]
    cases isTasks G <;> cases isChan (mx (G.length : Int) 1) l <;> rfl
  · cases ht : isTasks G with
    | false => exact ev_neg (by simp) (ev_now _)
    | true =>
      have hk := (isTasks_iff G).1 ht
      have e1 : mx (G.length : Int) 1 = (G.length : Int) := by
        unfold mx
        split <;> omega
      rw [if_pos rfl, if_pos rfl, e1]
      cases h : isChan (G.length : Int) l with
      | false => exact ev_neg (by simp) (ev_now _)
      | true =>
        have C := isChan_chan h
        have hN := C.slots
        have hcl := clashes_ev _ l C
        rw [Int.toNat_natCast] at hcl
        rw [if_pos rfl, if_pos rfl]
        refine ev_pos rfl (ev_fix (show impl_Tasks_many.f G = some (G.length : Int) from rfl) (ev_bind hcl ?_))
        by_cases c : ((clashL l G.length).length : Int) > 0
        · rw [if_pos c]
          exact ev_pos c (ev_now _)
        · rw [if_neg c]
          refine ev_neg c ?_
          have main : ∀ d n : Nat, n + d = G.length → Ev (fun q => impl_ServeTogether.l0 q l G (G.length : Int) (n : Int)) (servT G l d n, 0) := by
            intro d
            induction d with
            | zero =>
              intro n hn
              refine Ev.step (fun q => by rw [impl_ServeTogether.l0]) ?_
              exact ev_neg (by omega) (ev_now _)
            | succ d ih =>
              intro n hn
              have hw := waitsOf_len (tog l (n : Int) (rd_L1 l 0).length) (n : Int)
              have ht : (tog l (n : Int) (rd_L1 l 0).length).length = (rd_L1 l 0).length := tab_length _ _
              refine Ev.step (fun q => by rw [impl_ServeTogether.l0]) ?_
              rw [wrap_succ (by omega), servT]
              refine ev_pos (by omega) (ev_pos (by omega) (ev_pos (by omega) (ev_bind (together_ev _ l C n) (ev_bind (waits_ev _ n (by omega)) (ev_bind (greatest_ev _ (by omega)) ?_)))))
              by_cases c1 : great (waitsOf (tog l (n : Int) (rd_L1 l 0).length) (n : Int)) = 0
              · rw [if_pos c1]
                exact ev_pos c1 (ev_now _)
              · rw [if_neg c1]
                refine ev_neg c1 ?_
                by_cases c2 : great (waitsOf (tog l (n : Int) (rd_L1 l 0).length) (n : Int)) > rd G (n : Int)
                · rw [if_pos c2]
                  exact ev_pos c2 (ev_now _)
                · rw [if_neg c2]
                  exact ev_neg c2 (ih (n + 1) (by omega))
          exact main G.length 0 (by omega)
theorem szTasks2_f (l : List Int) (hl : l.length ≤ maxLen) : ∃ r, laws_szTasks.f l 1048576 = some r ∧ (r < 0 ∨ ((0 ≤ r ∧ r ≤ 1048576) ∧ l.length ≤ 1048576)) := by
  unfold laws_szTasks.f
  obtain ⟨r1, e1, h1⟩ := szInt64S_f l 1048576 hl (by omega)
  rw [e1, Option.bind_some]
  rcases h1 with h1 | h1
  · exact ⟨-1, by rw [if_pos h1], .inl (by omega)⟩
  · exact ⟨r1, by rw [if_neg (by omega)], .inr (by omega)⟩
theorem FnExactServeTogether : laws_FnExactServeTogether.Pure := by
  intro G l hG hl
  refine ev_rounds (g := fun q => laws_FnExactServeTogether.f q G l) ?_
  unfold laws_FnExactServeTogether.f
  obtain ⟨r, hr, h⟩ := szTasks2_f G hG.1
  refine ev_fix hr ?_
  rcases h with h | ⟨h0, g1⟩
  · exact ev_pos h (ev_now _)
  · refine ev_neg (by omega) ?_
    obtain ⟨r2, hr2, h⟩ := szInt64SS_ev l hl r h0
    refine ev_bind hr2 ?_
    rcases h with h | ⟨h3, _, h1, h2⟩
    · exact ev_pos h (ev_now _)
    · refine ev_neg (by omega) (ev_bind (toTasks_ev G g1) (ev_bind (toInt64SS_ev l h1 h2) (ev_bind (ServeTogether_spec G l g1 h2) (ev_bind (toTasks_ev G g1) (ev_bind (toInt64SS_ev l h1 h2) (ev_bind (ServeTogether_impl G l g1) ?_))))))
      refine ev_neg (by simp) ?_
      rw [bne_self_eq_false]
      refine Ev.step (fun q => by rw [laws_FnExactServeTogether.j0]) ?_
      exact ev_neg (by simp) (ev_bind (toTasks_ev G g1) (ev_bind (eqTasks_ev G g1) (ev_pos rfl (ev_bind (toInt64SS_ev l h1 h2) (ev_bind (eqInt64SS_ev l h1 h2) (ev_pos rfl (ev_now _)))))))
end Go.Proofs.Ytjkgjmaldbmgmaa.Pure
end
section
namespace Go.Proofs.Ytjkgjmaldbmgmaa.fnExactServeTogether
open Go.ChangeShapes Go.WideShapes Go.ChangeAt Go.RowKit Go.Deep Go.Proofs.Ytjkgjmaldbmgmaa.P
open Go.ChangeMaps (open_string shut_string)
set_option linter.unusedVariables false
theorem own : ownKnob Try.prog.godebug = none := by kernel_rfl
theorem laidOut : laidOutB Try.prog = true := by kernel_rfl
set_option maxRecDepth 100000 in
theorem lifted (os : Os) (started : os.Started) (H : Type) (enc : TypeId × Value → H) :
    ReturnsInHanded {} Try.checked os 13 .any (Rows.fnExactServeTogetherSpec.pre6 enc Try.prog Try.f13 Rows.fnExactServeTogetherRow.domain false) (Rows.fnExactServeTogetherSpec.post enc Try.prog Try.f13 false true false false) := by
  refine returnsInHanded_of_change_sized (C := Try.checked) own started (by kernel_rfl) Try.func13
    (ChangeSpec.witness6 (enc := enc) (C := Try.checked) false ⟨#[], #[.agg #[.slice none 0 0], .slice none 0 0], []⟩ 8 (by kernel_rfl) (by kernel_rfl) (by kernel_rfl) (by kernel_rfl)) ?_
  intro W base args ds gs before hval0 hW hcnd hsz0 _
  have hsz : (DataW.weightsEach Try.prog (Try.f13.params.toList ++ Rows.fnExactServeTogetherSpec.plain.varTypes Try.prog) (ds ++ gs)).all (· ≤ reachBytes) = true := hsz0
  have hval : ∀ (j : Nat) t v, Try.f13.params[j]? = some t → args[j]? = some v → Value.okWide Try.prog W .any base t v := hval0
  have hW' := hW
  obtain ⟨p, q, hA0, hV, rfl, hfz, hnd⟩ := hW
  have hA : DataW.TrodAll enc Try.prog W 0 (fun _ => true) true Try.f13.params.toList args.toList ds p := hA0
  rw [Try.params13] at hA hval hsz
  obtain ⟨v0, vs0, d0, ds0, p0, q0, hargs, rfl, rfl, h0, r0⟩ := trodAll_cons hA
  obtain ⟨v1, vs1, d1, ds1, p1, q1, rfl, rfl, rfl, h1, r1⟩ := trodAll_cons r0
  obtain ⟨rfl, rfl, rfl⟩ := trodAll_nil r1
  obtain rfl : args = #[v0, v1] := by cases args; simp_all
  obtain ⟨rfl, rfl⟩ := trodVars_none hV
  have k0 := h0
  have lt0 : ∀ x ∈ p0, x.block < W.heap.size := by obtain ⟨m, hm⟩ := k0; exact DataW.trod_lt m _ _ _ hm
  obtain ⟨v0_0, y0_0, n0, rfl, t0_0⟩ := agg1 Try.underlying41 (by kernel_rfl) (by kernel_rfl) (hval 0 41 v0 rfl rfl) h0
  obtain ⟨l0_0, e0_0, w0_0⟩ := open_cell (opens_slice (opens_int Try.underlying2) Try.underlying22 (by kernel_rfl) rfl) t0_0
  obtain ⟨A0_0, c0_0, rfl, hc0_0, hr0_0⟩ := row_cell e0_0
  have k1 := h1
  have lt1 : ∀ x ∈ p1, x.block < W.heap.size := by obtain ⟨m, hm⟩ := k1; exact DataW.trod_lt m _ _ _ hm
  obtain ⟨l1, A1, c1, rfl, hc1, hr1, w1⟩ := open_row (opens_slice (opens_int Try.underlying2) Try.underlying22 (by kernel_rfl) rfl) Try.underlying51 (by kernel_rfl) rfl (hval 1 51 v1 rfl rfl) h1
  clear hA0 hval0 hsz0 hsz
  refine (P.laws_FnExactServeTogether.walk Pure.FnExactServeTogether A0_0 c0_0 l0_0 A1 c1 l1 W hr0_0 hc0_0 hr1 hc1 w0_0 w1).mono fun e W' ⟨he, bel⟩ => ?_
  subst he
  exact ⟨_, rfl, _, _, _, [], _, [], hW', trodAll_mk1 (shut_bool Try.underlying4 _), (trodAll_cons_mk (Below.trod laidOut (by kernel_rfl) (of_decide_eq_true (by kernel_rfl)) k0 bel lt0) (trodAll_cons_mk (Below.trod laidOut (by kernel_rfl) (of_decide_eq_true (by kernel_rfl)) k1 bel lt1) trodAll_mk0)), rfl, bel.frame _, fun h => by cases h⟩
theorem over : Rows.fnExactServeTogetherRow.holds Try.pinned (OpenSpec.ofChange Rows.fnExactServeTogetherSpec) :=
  OpenClaim.holds_of_wide 13 Try.f13 rfl rfl rfl rfl rfl rfl rfl ⟨rfl, rfl, rfl, rfl, rfl⟩ rfl rfl rfl rfl rfl (by kernel_rfl) Try.func13 (by kernel_rfl)
    (of_decide_eq_true (by kernel_rfl)) (by unfold Func.isWrapper; first | (rw [if_pos (by decide +kernel)]; kernel_rfl) | (rw [if_neg (by decide +kernel)]; exact ⟨rfl, rfl⟩))
    (fun os started H enc _ => lifted os started H enc)
theorem proved : Rows.FnExactServeTogetherSaid := over
end Go.Proofs.Ytjkgjmaldbmgmaa.fnExactServeTogether
namespace Go.Proofs.Ytjkgjmaldbmgmaa
/-- The row, under a short name, for the claim. -/
theorem fnExactServeTogether_holds : Rows.FnExactServeTogetherSaid := fnExactServeTogether.proved
end Go.Proofs.Ytjkgjmaldbmgmaa
end
