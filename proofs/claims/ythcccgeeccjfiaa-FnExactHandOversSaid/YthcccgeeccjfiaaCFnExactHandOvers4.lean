/- The program's HandOvers returns what the reference's returns, for all channels and tasks; no condition beside. -/
import Derived.Test.YthcccgeeccjfiaaCFnExactHandOvers3
import Derived.Test.YthcccgeeccjfiaaRows
section
namespace Go.Proofs.Ythcccgeeccjfiaa.P
open Go.RowKit Go.Proofs.YthcccgeeccjfiaaW.PrintWords Go.Proofs.YthcccgeeccjfiaaW.PrintLast Go.Proofs.YthcccgeeccjfiaaW.PrintMore
attribute [local go_sem] max2_int min2_int max_two min_two max_three min_three max_four min_four   -- for this text's walks alone
set_option linter.unusedVariables false
set_option linter.unusedSimpArgs false
theorem slices_Index_Sint64_int64.mono_l : ∀ k, (∀ y0 y1 y2 y3, LeO (slices_Index_Sint64_int64.l0 k y0 y1 y2 y3) (slices_Index_Sint64_int64.l0 (k + 1) y0 y1 y2 y3))
  | 0 => fun _ _ _ _ r h => by simp [slices_Index_Sint64_int64.l0] at h
  | k + 1 => by
    have ih0 := slices_Index_Sint64_int64.mono_l k
    · intro y0 y1 y2 y3
      unfold slices_Index_Sint64_int64.l0
      repeat' first
      | (with_reducible exact ih0 _ _ _ _)
      | (with_reducible exact LeO.refl _)
      | (with_reducible exact LeO.none _)
      | (with_reducible refine LeO.ite ?_ ?_)
      | (with_reducible refine LeO.bind ?_ (fun _ => ?_))
      | exact ih0 _ _ _ _
      | exact LeO.none _
      | refine LeO.ite ?_ ?_
      | refine LeO.bind ?_ (fun _ => ?_)
theorem slices_Index_Sint64_int64.mono : ∀ a0 a1 k, LeO (slices_Index_Sint64_int64.f k a0 a1) (slices_Index_Sint64_int64.f (k + 1) a0 a1) := by
  intro a0 a1 k
  have ih0 := slices_Index_Sint64_int64.mono_l k
  unfold slices_Index_Sint64_int64.f
  repeat' first
      | (with_reducible exact ih0 _ _ _ _)
      | (with_reducible exact LeO.refl _)
      | (with_reducible exact LeO.none _)
      | (with_reducible refine LeO.ite ?_ ?_)
      | (with_reducible refine LeO.bind ?_ (fun _ => ?_))
      | exact ih0 _ _ _ _
      | exact LeO.none _
      | refine LeO.ite ?_ ?_
      | refine LeO.bind ?_ (fun _ => ?_)
end Go.Proofs.Ythcccgeeccjfiaa.P
end
section
namespace Go.Proofs.Ythcccgeeccjfiaa.P
open Go.RowKit Go.Proofs.YthcccgeeccjfiaaW.PrintWords Go.Proofs.YthcccgeeccjfiaaW.PrintLast Go.Proofs.YthcccgeeccjfiaaW.PrintMore
attribute [local go_sem] max2_int min2_int max_two min_two max_three min_three max_four min_four   -- for this text's walks alone
set_option linter.unusedVariables false
set_option linter.unusedSimpArgs false
def slices_Contains_Sint64_int64.f (k : Nat) (l0 : List Int) (a1 : Int) : Option (Bool) := (slices_Index_Sint64_int64.f k l0 a1).bind fun t101 => (some (decide (t101 ≥ 0)))
theorem slices_Contains_Sint64_int64.mono : ∀ a0 a1 k, LeO (slices_Contains_Sint64_int64.f k a0 a1) (slices_Contains_Sint64_int64.f (k + 1) a0 a1) := by
  intro a0 a1 k
  unfold slices_Contains_Sint64_int64.f
  repeat' first
      | (with_reducible exact slices_Index_Sint64_int64.mono _ _ _)
      | (with_reducible exact LeO.refl _)
      | (with_reducible exact LeO.none _)
      | (with_reducible refine LeO.ite ?_ ?_)
      | (with_reducible refine LeO.bind ?_ (fun _ => ?_))
      | exact slices_Index_Sint64_int64.mono _ _ _
      | exact LeO.none _
      | refine LeO.ite ?_ ?_
      | refine LeO.bind ?_ (fun _ => ?_)
end Go.Proofs.Ythcccgeeccjfiaa.P
end
section
namespace Go.Proofs.Ythcccgeeccjfiaa.P
open Go.RowKit Go.Proofs.YthcccgeeccjfiaaW.PrintWords Go.Proofs.YthcccgeeccjfiaaW.PrintLast Go.Proofs.YthcccgeeccjfiaaW.PrintMore
attribute [local go_sem] max2_int min2_int max_two min_two max_three min_three max_four min_four   -- for this text's walks alone
set_option linter.unusedVariables false
set_option linter.unusedSimpArgs false
def impl_levelCode.f (k : Nat) (l0 : List Int) : Option (Int) := (impl_areTurns.f l0 8).bind fun t101 => (if t101 = true then ((slices_Contains_Sint64_int64.f k l0 (-1)).bind fun t102 => (if t102 = true then (some 5) else ((impl_sharesOf.f k l0).bind fun t103 => ((slices_Contains_Sint64_int64.f k t103 0).bind fun t106 => (if t106 = true then (some 5) else (if (l0.length : Int) > 60 then (some 5) else (some 0))))))) else (some 2))
theorem impl_levelCode.mono : ∀ a0 k, LeO (impl_levelCode.f k a0) (impl_levelCode.f (k + 1) a0) := by
  intro a0 k
  unfold impl_levelCode.f
  repeat' first
      | (with_reducible exact impl_sharesOf.mono _ _)
      | (with_reducible exact slices_Contains_Sint64_int64.mono _ _ _)
      | (with_reducible exact LeO.refl _)
      | (with_reducible exact LeO.none _)
      | (with_reducible refine LeO.ite ?_ ?_)
      | (with_reducible refine LeO.bind ?_ (fun _ => ?_))
      | exact impl_sharesOf.mono _ _
      | exact slices_Contains_Sint64_int64.mono _ _ _
      | exact LeO.none _
      | refine LeO.ite ?_ ?_
      | refine LeO.bind ?_ (fun _ => ?_)
end Go.Proofs.Ythcccgeeccjfiaa.P
end
section
namespace Go.Proofs.Ythcccgeeccjfiaa.Pure
set_option linter.unusedVariables false
set_option linter.unusedSimpArgs false
/-- the slots at which turns hold x, counted from o -/
def posOf (x : Int) : Int → List Int → List Int
  | _, [] => []
  | o, y :: l => if y = x then o :: posOf x (o + 1) l else posOf x (o + 1) l
theorem posOf_append (x : Int) (l m : List Int) : ∀ o, posOf x o (l ++ m) = posOf x o l ++ posOf x (o + l.length) m := by
  induction l with
  | nil => intro o; simp [posOf]
  | cons y l ih =>
    intro o
    simp only [List.cons_append, posOf, ih, List.length_cons]
    rw [show o + ((l.length + 1 : Nat) : Int) = o + 1 + (l.length : Int) by omega]
    split <;> simp
theorem posOf_length (x : Int) (l : List Int) : ∀ o, (posOf x o l).length ≤ l.length := by
  induction l with
  | nil => intro o; simp [posOf]
  | cons z l ih =>
    intro o
    simp only [posOf]
    have := ih (o + 1)
    split <;> simp only [List.length_cons] <;> omega
end Go.Proofs.Ythcccgeeccjfiaa.Pure
end
section
namespace Go.Proofs.Ythcccgeeccjfiaa.Pure
open Go.RowKit Go.Proofs.Ythcccgeeccjfiaa.P Go.Proofs.YthcccgeeccjfiaaW.PrintWords Go.Proofs.YthcccgeeccjfiaaW.PrintLast Go.Proofs.YthcccgeeccjfiaaW.PrintMore
set_option linter.unusedVariables false
set_option linter.unusedSimpArgs false
theorem posOf_cnt (x : Int) (l : List Int) : ∀ o, ((posOf x o l).length : Int) = cnt x l := by
  induction l with
  | nil => intro o; rfl
  | cons y l ih =>
    intro o
    have h := ih (o + 1)
    by_cases e : y = x
    · simp only [posOf, cnt]
      rw [if_pos e, if_pos e, List.length_cons]
      omega
    · simp only [posOf, cnt]
      rw [if_neg e, if_neg e]
      omega
end Go.Proofs.Ythcccgeeccjfiaa.Pure
end
section
namespace Go.Proofs.Ythcccgeeccjfiaa.Pure
set_option linter.unusedVariables false
set_option linter.unusedSimpArgs false
theorem tmod_nat (m n : Nat) : Int.tmod (m : Int) (n : Int) = ((m % n : Nat) : Int) := rfl
end Go.Proofs.Ythcccgeeccjfiaa.Pure
end
section
namespace Go.Proofs.Ythcccgeeccjfiaa.Pure
open Go.RowKit Go.Proofs.Ythcccgeeccjfiaa.P Go.Proofs.YthcccgeeccjfiaaW.PrintWords Go.Proofs.YthcccgeeccjfiaaW.PrintLast Go.Proofs.YthcccgeeccjfiaaW.PrintMore
set_option linter.unusedVariables false
set_option linter.unusedSimpArgs false
def cntTo (f : Nat → Int) : Nat → Int
  | 0 => 0
  | n + 1 => cntTo f n + f n
theorem cntTo_shift (g : Nat → Int) : ∀ m, cntTo g (m + 1) = g 0 + cntTo (fun j => g (j + 1)) m := by
  intro m
  induction m with
  | zero => simp [cntTo]
  | succ m ih =>
    rw [cntTo, ih]
    simp only [cntTo]
    omega
theorem cntTo_congr {f g : Nat → Int} : ∀ m, (∀ j, j < m → f j = g j) → cntTo f m = cntTo g m := by
  intro m
  induction m with
  | zero => intro _; rfl
  | succ m ih =>
    intro h
    rw [cntTo, cntTo, ih (fun j hj => h j (by omega)), h m (by omega)]
theorem cntTo_bounds {f : Nat → Int} (h : ∀ j, 0 ≤ f j ∧ f j ≤ 1) : ∀ m : Nat, 0 ≤ cntTo f m ∧ cntTo f m ≤ m := by
  intro m
  induction m with
  | zero => simp [cntTo]
  | succ m ih => have := h m; rw [cntTo]; omega
def chgN (p : List Int) (j : Nat) : Int := if rd p (j : Int) = rd p (((j + 1) % p.length : Nat) : Int) then 0 else 1
def chgP (p : List Int) (j : Nat) : Int := if rd p (j : Int) = rd p (((j + p.length - 1) % p.length : Nat) : Int) then 0 else 1
theorem chg_eq (p : List Int) : cntTo (chgP p) p.length = cntTo (chgN p) p.length := by
  obtain ⟨m, hm⟩ | h0 : (∃ m, p.length = m + 1) ∨ p.length = 0 := by
    cases p with
    | nil => exact .inr rfl
    | cons y l => exact .inl ⟨l.length, by simp⟩
  · rw [hm, cntTo_shift, cntTo]
    have e0 : chgP p 0 = chgN p m := by
      unfold chgP chgN
      rw [hm, show (0 + (m + 1) - 1) % (m + 1) = m by rw [Nat.zero_add, Nat.add_sub_cancel, Nat.mod_eq_of_lt (by omega)], Nat.mod_self]
      by_cases e : rd p ((0 : Nat) : Int) = rd p (m : Int)
      · rw [if_pos e, if_pos e.symm]
      · rw [if_neg e, if_neg (fun h => e h.symm)]
    have e1 : cntTo (fun j => chgP p (j + 1)) m = cntTo (chgN p) m := cntTo_congr m fun j hj => by
      unfold chgP chgN
      rw [hm, show (j + 1 + (m + 1) - 1) % (m + 1) = j by rw [show j + 1 + (m + 1) - 1 = j + (m + 1) by omega, Nat.add_mod_right, Nat.mod_eq_of_lt (by omega)], Nat.mod_eq_of_lt (by omega : j + 1 < m + 1)]
      by_cases e : rd p ((j + 1 : Nat) : Int) = rd p (j : Int)
      · rw [if_pos e, if_pos e.symm]
      · rw [if_neg e, if_neg (fun h => e h.symm)]
    rw [e0, e1]
    omega
  · rw [h0]
    rfl
theorem chgN_bit (p : List Int) (j : Nat) : 0 ≤ chgN p j ∧ chgN p j ≤ 1 := by unfold chgN; split <;> omega
theorem chgP_bit (p : List Int) (j : Nat) : 0 ≤ chgP p j ∧ chgP p j ≤ 1 := by unfold chgP; split <;> omega
theorem places_one (s i : Int) : ∀ (l : List (List Int)) (o : Int), cnt i (l.map fun t => rd t s) ≤ 1 → posOf i o (l.map fun t => rd t s) = if l.any (turnAt s i) = true then [o + (l.findIdx (turnAt s i) : Int)] else [] := by
  intro l
  induction l with
  | nil => intro o _; rfl
  | cons t l ih =>
    intro o h
    rw [List.map_cons, posOf, List.any_cons]
    rw [List.map_cons, cnt] at h
    have hb := cnt_bounds i (l.map fun t => rd t s)
    by_cases e : rd t s = i
    · have et : turnAt s i t = true := by unfold turnAt; rw [beq_iff_eq]; exact e
      rw [if_pos e] at h
      have h0 := posOf_cnt i (l.map fun t => rd t s) (o + 1)
      have h1 : posOf i (o + 1) (l.map fun t => rd t s) = [] := List.eq_nil_of_length_eq_zero (by omega)
      rw [if_pos e, h1, et, Bool.true_or, if_pos rfl, List.findIdx_cons, et]
      simp
    · have et : turnAt s i t = false := by unfold turnAt; exact beq_eq_false_iff_ne.2 e
      rw [if_neg e] at h
      rw [if_neg e, ih (o + 1) (by omega), et, Bool.false_or, List.findIdx_cons, et]
      split
      · simp only [cond_false, Int.natCast_add, Int.natCast_one]
        rw [show o + 1 + (l.findIdx (turnAt s i) : Int) = o + ((l.findIdx (turnAt s i) : Int) + 1) by omega]
      · rfl
def plc (l : List (List Int)) (i : Int) : Nat → List Int
  | 0 => []
  | s + 1 => plc l i s ++ (if l.any (turnAt (s : Int) i) = true then [(l.findIdx (turnAt (s : Int) i) : Int)] else [])
theorem plc_length (l : List (List Int)) (i : Int) : ∀ s, (plc l i s).length ≤ s := by
  intro s
  induction s with
  | zero => simp [plc]
  | succ s ih =>
    rw [plc, List.length_append]
    split
    · rw [List.length_singleton]; omega
    · rw [List.length_nil]; omega
theorem clI_none (l : List (List Int)) (s : Nat) : ∀ d i acc, (clI l s d i acc).length ≤ acc.length → ∀ j, i ≤ j → j < i + d → chanHas l s (j : Int) ≤ 1 := by
  intro d
  induction d with
  | zero => intro i acc _ j h1 h2; omega
  | succ d ih =>
    intro i acc h j h1 h2
    rw [clI] at h
    by_cases c : chanHas l s (i : Int) > 1
    · rw [if_pos c] at h
      have := clI_mono l s d (i + 1) (acc ++ [[(s : Int), (i : Int)]])
      rw [List.length_append, List.length_singleton] at this
      omega
    · rw [if_neg c] at h
      by_cases e : j = i
      · subst e; omega
      · exact ih (i + 1) acc h j (by omega) (by omega)
theorem clS_mono (l : List (List Int)) (k : Nat) : ∀ d s acc, acc.length ≤ (clS l k d s acc).length := by
  intro d
  induction d with
  | zero => intro s acc; exact Nat.le_refl _
  | succ d ih => intro s acc; rw [clS]; exact Nat.le_trans (clI_mono l s k 0 acc) (ih _ _)
theorem clS_none (l : List (List Int)) (k : Nat) : ∀ d s acc, (clS l k d s acc).length ≤ acc.length → ∀ j, s ≤ j → j < s + d → ∀ i, i < k → chanHas l j (i : Int) ≤ 1 := by
  intro d
  induction d with
  | zero => intro s acc _ j h1 h2; omega
  | succ d ih =>
    intro s acc h j h1 h2 i hi
    rw [clS] at h
    have h3 := clS_mono l k d (s + 1) (clI l s k 0 acc)
    have h4 := clI_mono l s k 0 acc
    by_cases e : j = s
    · subst e
      exact clI_none l j k 0 acc (by omega) i (by omega) (by omega)
    · exact ih (s + 1) (clI l s k 0 acc) (by omega) j (by omega) (by omega) i hi
def handR (k : Int) (l : List (List Int)) (i : Int) : Int × Int := if isChan k l = true then (if 0 ≤ i ∧ i ≤ wrap64 (k - 1) then (if ((clashL l k.toNat).length : Int) > 0 then (0, 5) else (cntTo (chgN (plc l i (rd_L1 l 0).length)) (plc l i (rd_L1 l 0).length).length, 0)) else (0, 2)) else (0, 2)
theorem Hand_l2 (p : List Int) (hp : p.length ≤ 1000) : ∀ d n : Nat, n + d = p.length → Ev (fun q => spec_HandOvers.l2 q p (cntTo (chgN p) n) (n : Int)) (cntTo (chgN p) p.length, 0) := by
  intro d
  induction d with
  | zero =>
    intro n hn
    obtain rfl : n = p.length := by omega
    refine Ev.step (fun q => by rw [spec_HandOvers.l2]) ?_
    exact ev_neg (by omega) (ev_now _)
  | succ d ih =>
    intro n hn
    have hb := cntTo_bounds (chgN_bit p) n
    have hmod : (n + 1) % p.length < p.length := Nat.mod_lt _ (by omega)
    have ih := ih (n + 1) (by omega)
    rw [cntTo] at ih
    refine Ev.step (fun q => by rw [spec_HandOvers.l2]) ?_
    rw [wrap_succ (n := n) (by omega), tmod_nat]
    refine ev_pos (by omega) (ev_pos (by omega) (ev_neg (by omega) (ev_pos (by omega) (ev_pos (by omega) ?_))))
    by_cases c : rd p (n : Int) = rd p (((n + 1) % p.length : Nat) : Int)
    · have e : chgN p n = 0 := if_pos c
      rw [e, Int.add_zero] at ih
      exact ev_pos c ih
    · have e : chgN p n = 1 := if_neg c
      rw [e] at ih
      refine ev_neg c ?_
      rw [wrap_id (by omega) (by omega)]
      exact ih
theorem Hand_l1 (k : Int) (l : List (List Int)) (C : Chan k l) (i : Int) (s : Nat) (hs : s < (rd_L1 l 0).length) (acc : List Int) (ha : acc.length ≤ 1000) (R : Int × Int)
    (hR : Ev (fun q => spec_HandOvers.l0 q l i (acc ++ posOf i 0 (l.map fun t => rd t (s : Int))) ((s + 1 : Nat) : Int)) R) : ∀ d n : Nat, n + d = l.length →
    Ev (fun q => spec_HandOvers.l1 q l i (acc ++ posOf i 0 ((l.take n).map fun t => rd t (s : Int))) (s : Int) (n : Int)) R := by
  have hl := C.len
  have hN := C.slots
  intro d
  induction d with
  | zero =>
    intro n hn
    rw [List.take_of_length_le (by omega)]
    refine Ev.step (fun q => by rw [spec_HandOvers.l1]) ?_
    rw [wrap_succ (n := s) (by omega)]
    exact ev_neg (by omega) hR
  | succ d ih =>
    intro n hn
    have hlt : n < l.length := by omega
    have hr := C.row _ (List.getElem_mem hlt)
    have hp := posOf_length i ((l.take n).map fun t => rd t (s : Int)) 0
    rw [List.length_map, List.length_take] at hp
    have ih := ih (n + 1) (by omega)
    rw [List.take_succ_eq_append_getElem hlt, List.map_append, posOf_append] at ih
    have e2 : (0 : Int) + (((l.take n).map fun t => rd t (s : Int)).length : Int) = (n : Int) := by
      rw [List.length_map, List.length_take]; omega
    rw [e2] at ih
    refine Ev.step (fun q => by rw [spec_HandOvers.l1]) ?_
    rw [rdL_nat hlt, wrap_succ (n := n) (by omega)]
    refine ev_pos (by omega) (ev_pos (by omega) (ev_pos (by omega) (ev_pos (by omega) ?_)))
    by_cases c : rd l[n] (s : Int) = i
    · have e3 : posOf i (n : Int) ([l[n]].map fun t => rd t (s : Int)) = [(n : Int)] := by simp [posOf, c]
      rw [e3, ← List.append_assoc] at ih
      exact ev_pos c (ev_pos (by rw [List.length_append]; omega) ih)
    · have e3 : posOf i (n : Int) ([l[n]].map fun t => rd t (s : Int)) = [] := by simp [posOf, c]
      rw [e3, List.append_nil] at ih
      exact ev_neg c ih
theorem Hand_l0 (k : Int) (l : List (List Int)) (C : Chan k l) (i : Int) (hone : ∀ s, s < (rd_L1 l 0).length → chanHas l s i ≤ 1) : ∀ d s : Nat, s + d = (rd_L1 l 0).length →
    Ev (fun q => spec_HandOvers.l0 q l i (plc l i s) (s : Int)) (cntTo (chgN (plc l i (rd_L1 l 0).length)) (plc l i (rd_L1 l 0).length).length, 0) := by
  have hl := C.len
  have hN := C.slots
  intro d
  induction d with
  | zero =>
    intro s hs
    obtain rfl : s = (rd_L1 l 0).length := by omega
    have hp := plc_length l i (rd_L1 l 0).length
    refine Ev.step (fun q => by rw [spec_HandOvers.l0]) ?_
    exact ev_pos (by omega) (ev_neg (by omega) (Hand_l2 (plc l i (rd_L1 l 0).length) (by omega) (plc l i (rd_L1 l 0).length).length 0 (by omega)))
  | succ d ih =>
    intro s hs
    have hp := plc_length l i s
    have ih := ih (s + 1) (by omega)
    have h1 := places_one (s : Int) i l 0 (hone s (by omega))
    simp only [Int.zero_add] at h1
    rw [plc, ← h1] at ih
    have h2 := Hand_l1 k l C i s (by omega) (plc l i s) (by omega) _ ih l.length 0 (by omega)
    rw [show posOf i 0 ((l.take 0).map fun t => rd t (s : Int)) = [] from rfl, List.append_nil] at h2
    refine Ev.step (fun q => by rw [spec_HandOvers.l0]) ?_
    exact ev_pos (by omega) (ev_pos (by omega) h2)
theorem impl_Hand_l1 (p : List Int) (hp : p.length ≤ 1000) : ∀ d n : Nat, n + d = p.length → Ev (fun q => impl_HandOvers.l1 q p (cntTo (chgP p) n) (n : Int)) (cntTo (chgP p) p.length, 0) := by
  intro d
  induction d with
  | zero =>
    intro n hn
    obtain rfl : n = p.length := by omega
    refine Ev.step (fun q => by rw [impl_HandOvers.l1]) ?_
    exact ev_neg (by omega) (ev_now _)
  | succ d ih =>
    intro n hn
    have hb := cntTo_bounds (chgP_bit p) n
    have hmod : (n + p.length - 1) % p.length < p.length := Nat.mod_lt _ (by omega)
    have ih := ih (n + 1) (by omega)
    rw [cntTo] at ih
    refine Ev.step (fun q => by rw [impl_HandOvers.l1]) ?_
    rw [wrap_succ (n := n) (by omega), wrap_id (x := (n : Int) + (p.length : Int)) (by omega) (by omega), wrap_id (x := (n : Int) + (p.length : Int) - 1) (by omega) (by omega), show (n : Int) + (p.length : Int) - 1 = ((n + p.length - 1 : Nat) : Int) by omega, tmod_nat]
    refine ev_pos (by omega) (ev_pos (by omega) (ev_pos (by omega) (ev_pos (by omega) ?_)))
    by_cases c : rd p (n : Int) = rd p (((n + p.length - 1) % p.length : Nat) : Int)
    · have e : chgP p n = 0 := if_pos c
      rw [e, Int.add_zero] at ih
      exact ev_pos c ih
    · have e : chgP p n = 1 := if_neg c
      rw [e] at ih
      refine ev_neg c ?_
      rw [wrap_id (by omega) (by omega)]
      exact ih
theorem impl_Hand_l0 (k : Int) (l : List (List Int)) (C : Chan k l) (i : Int) : ∀ d s : Nat, s + d = (rd_L1 l 0).length →
    Ev (fun q => impl_HandOvers.l0 q l i (plc l i s) (s : Int)) (cntTo (chgN (plc l i (rd_L1 l 0).length)) (plc l i (rd_L1 l 0).length).length, 0) := by
  have hl := C.len
  have hN := C.slots
  intro d
  induction d with
  | zero =>
    intro s hs
    obtain rfl : s = (rd_L1 l 0).length := by omega
    have hp := plc_length l i (rd_L1 l 0).length
    have h := impl_Hand_l1 (plc l i (rd_L1 l 0).length) (by omega) (plc l i (rd_L1 l 0).length).length 0 (by omega)
    rw [chg_eq] at h
    refine Ev.step (fun q => by rw [impl_HandOvers.l0]) ?_
    exact ev_neg (by omega) h
  | succ d ih =>
    intro s hs
    have hp := plc_length l i s
    have ih := ih (s + 1) (by omega)
    rw [plc] at ih
    refine Ev.step (fun q => by rw [impl_HandOvers.l0]) ?_
    rw [wrap_succ (n := s) (by omega)]
    refine ev_pos (by omega) (ev_pos (by omega) (ev_pos (fun x hx => by rw [C.row x hx]; omega) ?_))
    by_cases c : l.any (turnAt (s : Int) i) = true
    · have e : idxF (turnAt (s : Int) i) l = (l.findIdx (turnAt (s : Int) i) : Int) := if_pos c
      rw [if_pos c] at ih
      rw [e]
      exact ev_pos (by omega) (ev_pos (by omega) ih)
    · have e : idxF (turnAt (s : Int) i) l = -1 := if_neg c
      rw [if_neg c, List.append_nil] at ih
      rw [e]
      exact ev_neg (by omega) ih
theorem HandOvers_spec (k : Int) (l : List (List Int)) (hx : ∀ x ∈ l, x.length ≤ 1048576) (i : Int) : Ev (fun q => spec_HandOvers.f q k l i) (handR k l i) := by
  unfold spec_HandOvers.f handR
  refine ev_bind (l08Are_ev k l hx) ?_
  cases h : isChan k l with
  | false =>
    refine ev_neg (by simp) ?_
    refine Ev.step (fun q => by rw [spec_HandOvers.j0]) ?_
    exact ev_pos rfl (ev_now _)
  | true =>
    have C := isChan_chan h
    have hk := C.k8
    rw [if_pos rfl]
    refine ev_pos rfl (ev_fix (l01In_f _ _ _) ?_)
    refine Ev.step (fun q => by rw [spec_HandOvers.j0]) ?_
    by_cases c : 0 ≤ i ∧ i ≤ wrap64 (k - 1)
    · rw [if_pos c]
      rw [wrap_id (by omega) (by omega)] at c
      refine ev_neg (by rw [decide_eq_true (by rw [wrap_id (by omega) (by omega)]; exact c)]; simp) (ev_bind (l08Clashes_ev k l C) ?_)
      by_cases e : ((clashL l k.toNat).length : Int) > 0
      · rw [if_pos e]
        exact ev_pos e (ev_now _)
      · rw [if_neg e]
        refine ev_neg e (Hand_l0 k l C i (fun s hs => ?_) (rd_L1 l 0).length 0 (by omega))
        have := clS_none l k.toNat (rd_L1 l 0).length 0 [] (by unfold clashL at e; simp only [List.length_nil]; omega) s (by omega) (by omega) i.toNat (by omega)
        rwa [show ((i.toNat : Nat) : Int) = i by omega] at this
    · rw [if_neg c]
      exact ev_pos (by rw [decide_eq_false c]; rfl) (ev_now _)
theorem HandOvers_impl (k : Int) (l : List (List Int)) (i : Int) : Ev (fun q => impl_HandOvers.f q k l i) (handR k l i) := by
  unfold impl_HandOvers.f handR
  refine ev_fix (areChannels_f k l) ?_
  cases h : isChan k l with
  | false => exact ev_neg (by simp) (ev_now _)
  | true =>
    have C := isChan_chan h
    have hl := C.len
    rw [if_pos rfl]
    refine ev_pos rfl (ev_fix (within_f _ _ _) ?_)
    by_cases c : 0 ≤ i ∧ i ≤ wrap64 (k - 1)
    · rw [if_pos c]
      refine ev_pos (decide_eq_true c) (ev_bind (clashes_ev k l C) ?_)
      by_cases e : ((clashL l k.toNat).length : Int) > 0
      · rw [if_pos e]
        exact ev_pos e (ev_now _)
      · rw [if_neg e]
        exact ev_neg e (ev_pos (by omega) (impl_Hand_l0 k l C i (rd_L1 l 0).length 0 (by omega)))
    · rw [if_neg c]
      exact ev_neg (by rw [decide_eq_false c]; simp) (ev_now _)
theorem FnExactHandOvers : laws_FnExactHandOvers.Pure := by
  intro k l i _ hl _
  refine ev_rounds (g := fun q => laws_FnExactHandOvers.f q k l i) ?_
  unfold laws_FnExactHandOvers.f
  obtain ⟨r, hr, h⟩ := szInt64SS_ev l hl 1048576 (by omega)
  refine ev_bind hr ?_
  rcases h with h | ⟨h0, _, h1, h2⟩
  · exact ev_pos h (ev_now _)
  · refine ev_neg (by omega) (ev_bind (toInt64SS_ev l h1 h2) (ev_bind (HandOvers_spec k l h2 i) (ev_bind (toInt64SS_ev l h1 h2) (ev_bind (HandOvers_impl k l i) (ev_pos rfl ?_)))))
    rw [bne_self_eq_false]
    refine Ev.step (fun q => by rw [laws_FnExactHandOvers.j0]) ?_
    exact ev_neg (by simp) (ev_bind (toInt64SS_ev l h1 h2) (ev_bind (eqInt64SS_ev l h1 h2) (ev_pos rfl (ev_now _))))
end Go.Proofs.Ythcccgeeccjfiaa.Pure
end
section
namespace Go.Proofs.Ythcccgeeccjfiaa.fnExactHandOvers
open Go.ChangeShapes Go.WideShapes Go.ChangeAt Go.RowKit Go.Deep Go.Proofs.Ythcccgeeccjfiaa.P
open Go.ChangeMaps (open_string shut_string)
set_option linter.unusedVariables false
theorem own : ownKnob Try.prog.godebug = none := by kernel_rfl
theorem laidOut : laidOutB Try.prog = true := by kernel_rfl
set_option maxRecDepth 100000 in
theorem lifted (os : Os) (started : os.Started) (H : Type) (enc : TypeId × Value → H) :
    ReturnsInHanded {} Try.checked os 13 .any (Rows.fnExactHandOversSpec.pre6 enc Try.prog Try.f13 Rows.fnExactHandOversRow.domain false) (Rows.fnExactHandOversSpec.post enc Try.prog Try.f13 false true false false) := by
  refine returnsInHanded_of_change_sized (C := Try.checked) own started (by kernel_rfl) Try.func13
    (ChangeSpec.witness6 (enc := enc) (C := Try.checked) false ⟨#[], #[.int .i64 0, .slice none 0 0, .int .i64 0], []⟩ 8 (by kernel_rfl) (by kernel_rfl) (by kernel_rfl) (by kernel_rfl)) ?_
  intro W base args ds gs before hval0 hW hcnd hsz0 _
  have hsz : (DataW.weightsEach Try.prog (Try.f13.params.toList ++ Rows.fnExactHandOversSpec.plain.varTypes Try.prog) (ds ++ gs)).all (· ≤ reachBytes) = true := hsz0
  have hval : ∀ (j : Nat) t v, Try.f13.params[j]? = some t → args[j]? = some v → Value.okWide Try.prog W .any base t v := hval0
  have hW' := hW
  obtain ⟨p, q, hA0, hV, rfl, hfz, hnd⟩ := hW
  have hA : DataW.TrodAll enc Try.prog W 0 (fun _ => true) true Try.f13.params.toList args.toList ds p := hA0
  rw [Try.params13] at hA hval hsz
  obtain ⟨v0, vs0, d0, ds0, p0, q0, hargs, rfl, rfl, h0, r0⟩ := trodAll_cons hA
  obtain ⟨v1, vs1, d1, ds1, p1, q1, rfl, rfl, rfl, h1, r1⟩ := trodAll_cons r0
  obtain ⟨v2, vs2, d2, ds2, p2, q2, rfl, rfl, rfl, h2, r2⟩ := trodAll_cons r1
  obtain ⟨rfl, rfl, rfl⟩ := trodAll_nil r2
  obtain rfl : args = #[v0, v1, v2] := by cases args; simp_all
  obtain ⟨rfl, rfl⟩ := trodVars_none hV
  obtain ⟨a0, rfl, rfl, rfl, w0⟩ := open_int Try.underlying2 (hval 0 2 v0 rfl rfl) h0
  have k1 := h1
  have lt1 : ∀ x ∈ p1, x.block < W.heap.size := by obtain ⟨m, hm⟩ := k1; exact DataW.trod_lt m _ _ _ hm
  obtain ⟨l1, A1, c1, rfl, hc1, hr1, w1⟩ := open_row (opens_slice (opens_int Try.underlying2) Try.underlying22 (by kernel_rfl) rfl) Try.underlying52 (by kernel_rfl) rfl (hval 1 52 v1 rfl rfl) h1
  obtain ⟨a2, rfl, rfl, rfl, w2⟩ := open_int Try.underlying2 (hval 2 2 v2 rfl rfl) h2
  clear hA0 hval0 hsz0 hsz
  refine (P.laws_FnExactHandOvers.walk Pure.FnExactHandOvers a0 A1 c1 l1 a2 W hr1 hc1 w0 w1 w2).mono fun e W' ⟨he, bel⟩ => ?_
  subst he
  exact ⟨_, rfl, _, _, _, [], _, [], hW', trodAll_mk1 (shut_bool Try.underlying4 _), (trodAll_cons_mk (shut_int Try.underlying2 w0) (trodAll_cons_mk (Below.trod laidOut (by kernel_rfl) (of_decide_eq_true (by kernel_rfl)) k1 bel lt1) (trodAll_cons_mk (shut_int Try.underlying2 w2) trodAll_mk0))), rfl, bel.frame _, fun h => by cases h⟩
theorem over : Rows.fnExactHandOversRow.holds Try.pinned (OpenSpec.ofChange Rows.fnExactHandOversSpec) :=
  OpenClaim.holds_of_wide 13 Try.f13 rfl rfl rfl rfl rfl rfl rfl ⟨rfl, rfl, rfl, rfl, rfl⟩ rfl rfl rfl rfl rfl (by kernel_rfl) Try.func13 (by kernel_rfl)
    (of_decide_eq_true (by kernel_rfl)) (by unfold Func.isWrapper; first | (rw [if_pos (by decide +kernel)]; kernel_rfl) | (rw [if_neg (by decide +kernel)]; exact ⟨rfl, rfl⟩))
    (fun os started H enc _ => lifted os started H enc)
theorem proved : Rows.FnExactHandOversSaid := over
end Go.Proofs.Ythcccgeeccjfiaa.fnExactHandOvers
namespace Go.Proofs.Ythcccgeeccjfiaa
/-- The row, under a short name, for the claim. -/
theorem fnExactHandOvers_holds : Rows.FnExactHandOversSaid := fnExactHandOvers.proved
end Go.Proofs.Ythcccgeeccjfiaa
end
