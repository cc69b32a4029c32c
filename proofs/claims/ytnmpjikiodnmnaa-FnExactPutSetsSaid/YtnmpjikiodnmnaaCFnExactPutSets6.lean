/- The program's PutSets returns what the reference's returns, for all sets; no condition beside. -/
import Derived.Test.YtnmpjikiodnmnaaCFnExactPutSets5
import Derived.Test.YtnmpjikiodnmnaaRows
section
namespace Go.Proofs.Ytnmpjikiodnmnaa.P
open Go.RowKit Go.Proofs.YtnmpjikiodnmnaaW.PrintWords Go.Proofs.YtnmpjikiodnmnaaW.PrintLast Go.Proofs.YtnmpjikiodnmnaaW.PrintMore
attribute [local go_sem] max2_int min2_int max_two min_two max_three min_three max_four min_four   -- for this text's walks alone
set_option linter.unusedVariables false
set_option linter.unusedSimpArgs false
def laws_eqInt64S.l0 : Nat → List Int → List Int → Int → Option (Bool)
  | 0, _, _, _ => none
  | k + 1, x0, x1, x5 => if x5 < (x0.length : Int) then (if 0 ≤ x5 then (if x5 < (x1.length : Int) then (if (rd x0 x5) = (rd x1 x5) then (laws_eqInt64S.l0 k x0 x1 (wrap64 (x5 + 1))) else (some false)) else (none)) else (none)) else (some true)
def laws_eqInt64S.f (k : Nat) (l0 : List Int) (l1 : List Int) : Option (Bool) := if (l0.length : Int) = (l1.length : Int) then (laws_eqInt64S.l0 k l0 l1 0) else (some false)
theorem laws_eqInt64S.mono_l : ∀ k, (∀ y0 y1 y2, LeO (laws_eqInt64S.l0 k y0 y1 y2) (laws_eqInt64S.l0 (k + 1) y0 y1 y2))
  | 0 => fun _ _ _ r h => by simp [laws_eqInt64S.l0] at h
  | k + 1 => by
    have ih0 := laws_eqInt64S.mono_l k
    · intro y0 y1 y2
      unfold laws_eqInt64S.l0
      repeat' first
      | (with_reducible exact ih0 _ _ _)
      | (with_reducible exact LeO.refl _)
      | (with_reducible exact LeO.none _)
      | (with_reducible refine LeO.ite ?_ ?_)
      | (with_reducible refine LeO.bind ?_ (fun _ => ?_))
      | exact ih0 _ _ _
      | exact LeO.none _
      | refine LeO.ite ?_ ?_
      | refine LeO.bind ?_ (fun _ => ?_)
theorem laws_eqInt64S.mono : ∀ a0 a1 k, LeO (laws_eqInt64S.f k a0 a1) (laws_eqInt64S.f (k + 1) a0 a1) := by
  intro a0 a1 k
  have ih0 := laws_eqInt64S.mono_l k
  unfold laws_eqInt64S.f
  repeat' first
      | (with_reducible exact ih0 _ _ _)
      | (with_reducible exact LeO.refl _)
      | (with_reducible exact LeO.none _)
      | (with_reducible refine LeO.ite ?_ ?_)
      | (with_reducible refine LeO.bind ?_ (fun _ => ?_))
      | exact ih0 _ _ _
      | exact LeO.none _
      | refine LeO.ite ?_ ?_
      | refine LeO.bind ?_ (fun _ => ?_)
set_option maxHeartbeats 8000000 in
set_option maxRecDepth 100000 in
theorem laws_eqInt64S.calls (k : Nat) (A0 : Option Addr) (c0 : Nat) (l0 : List Int) (A1 : Option Addr) (c1 : Nat) (l1 : List Int) (r : Bool) (w : World) (hr0 : Kd.C (Kd.int .i64) w A0 l0.length l0) (hc0 : l0.length ≤ c0) (hr1 : Kd.C (Kd.int .i64) w A1 l1.length l1) (hc1 : l1.length ≤ c1) (h : laws_eqInt64S.f k l0 l1 = some r) :
    Calls Try.prog 9 #[.slice A0 l0.length c0, .slice A1 l1.length c1] w fun e w' => e = .returned (.bool r) ∧ Drawn0 w w' := by
  have HR0 := Aside0.mk hr0
  have HC0 := Aside0.mk hc0
  clear hr0 hc0
  have HR1 := Aside0.mk hr1
  have HC1 := Aside0.mk hc1
  clear hr1 hc1
  have H : (if (l0.length : Int) = (l1.length : Int) then (laws_eqInt64S.l0 k l0 l1 0) else (some false)) = some r := h
  clear h
  by_cases c3 : (l0.length : Int) = (l1.length : Int)
  · rw [if_pos c3] at H
    have c3b0 : ((l0.length : Int) == (l1.length : Int)) = true := beq_iff_eq.mpr c3
    have c3b1 : ((l0.length : Int) != (l1.length : Int)) = false := bne_eq_false_iff_eq.mpr c3
    have c3b2 : (l0.length == l1.length) = true := by first | simpa using c3 | (simp at c3 ⊢; omega)
    clear c3
    have H' := Aside0.mk H
    clear H
    go_enter Try.func9, Try.ntmps9
    go_wp2
    repeat (go_quiet (fail); try go_wp2)
    go_loopg [5] k (fun kq v5 w' => ∃ (x5_1 : Int), v5 = .int .i64 x5_1 ∧ Aside0 (laws_eqInt64S.l0 kq l0 l1 x5_1 = some r) ∧ Aside0 (kq ≤ k) ∧ Drawn0 w w')
    case atStart => exact ⟨(0), (by first | rfl | (simp; done) | (simp [*]; done)), H', ⟨Nat.le_refl _⟩, by repeat (first | exact Drawn0.refl _ | apply Drawn0.step)⟩
    case round =>
      clear H'
      try clear c1
      try clear p2
      try clear c3
      try clear c3b0
      try clear c3b1
      try clear c3b2
      obtain ⟨x5_1, rfl, HA, HK1, ⟨m1, rfl⟩⟩ := hrel
      cases gk with
      | zero => exact absurd HA.out (by simp [laws_eqInt64S.l0])
      | succ k1 =>
        have H := HA.out
        clear HA
        simp only [laws_eqInt64S.l0] at H
        by_cases c4 : x5_1 < (l0.length : Int)
        · rw [if_pos c4] at H
          have c4b0 : decide (x5_1 < (l0.length : Int)) = true := decide_eq_true c4
          clear c4
          by_cases c5 : 0 ≤ x5_1
          · rw [if_pos c5] at H
            have c5b0 : decide (0 ≤ x5_1) = true := decide_eq_true c5
            clear c5
            by_cases c6 : x5_1 < (l1.length : Int)
            · rw [if_pos c6] at H
              have c6b0 : decide (x5_1 < (l1.length : Int)) = true := decide_eq_true c6
              clear c6
              by_cases c7 : (rd l0 x5_1) = (rd l1 x5_1)
              · rw [if_pos c7] at H
                have c7b0 : ((rd l0 x5_1) == (rd l1 x5_1)) = true := beq_iff_eq.mpr c7
                have c7b1 : ((rd l0 x5_1) != (rd l1 x5_1)) = false := bne_eq_false_iff_eq.mpr c7
                clear c7
                have H' := Aside0.mk H
                clear H
                have p101 : 0 ≤ (x5_1 : Int) := of_decide_eq_true (by first | (with_reducible assumption) | assumption)
                have q101 : x5_1 < (l0.length : Int) := of_decide_eq_true (by first | (with_reducible assumption) | assumption)
                obtain ⟨ad101, e101, hx101_0⟩ := Kd.at_int HR0.out x5_1 p101 q101
                cases e101
                replace p101 := eq_true p101
                replace q101 := eq_true q101
                have p102 : 0 ≤ (x5_1 : Int) := of_decide_eq_true (by first | (with_reducible assumption) | assumption)
                have q102 : x5_1 < (l1.length : Int) := of_decide_eq_true (by first | (with_reducible assumption) | assumption)
                obtain ⟨ad102, e102, hx102_0⟩ := Kd.at_int HR1.out x5_1 p102 q102
                cases e102
                replace p102 := eq_true p102
                replace q102 := eq_true q102
                go_wp2
                repeat (go_quiet (fail); try go_wp2)
                go_roundg k1
                case measure => have := HK1.out; omega
                case rel => exact ⟨(wrap64 (x5_1 + 1)), (by first | rfl | (simp; done) | (simp [*]; done)), H', ⟨by have := HK1.out; omega⟩, by repeat (first | exact Drawn0.refl _ | apply Drawn0.step)⟩
              · rw [if_neg c7] at H
                have c7b0 : ((rd l0 x5_1) == (rd l1 x5_1)) = false := beq_eq_false_iff_ne.mpr c7
                have c7b1 : ((rd l0 x5_1) != (rd l1 x5_1)) = true := bne_iff_ne.mpr c7
                obtain rfl := Option.some.inj H
                have p101 : 0 ≤ (x5_1 : Int) := of_decide_eq_true (by first | (with_reducible assumption) | assumption)
                have q101 : x5_1 < (l0.length : Int) := of_decide_eq_true (by first | (with_reducible assumption) | assumption)
                obtain ⟨ad101, e101, hx101_0⟩ := Kd.at_int HR0.out x5_1 p101 q101
                cases e101
                replace p101 := eq_true p101
                replace q101 := eq_true q101
                have p102 : 0 ≤ (x5_1 : Int) := of_decide_eq_true (by first | (with_reducible assumption) | assumption)
                have q102 : x5_1 < (l1.length : Int) := of_decide_eq_true (by first | (with_reducible assumption) | assumption)
                obtain ⟨ad102, e102, hx102_0⟩ := Kd.at_int HR1.out x5_1 p102 q102
                cases e102
                replace p102 := eq_true p102
                replace q102 := eq_true q102
                go_wp2
                repeat (go_quiet (fail); try go_wp2)
                go_ret
                exact ⟨by first | rfl | (simp; done) | (simp [*]; done), by repeat (first | exact Drawn0.refl _ | apply Drawn0.step)⟩
            · rw [if_neg c6] at H
              exact absurd H (by simp)
          · rw [if_neg c5] at H
            exact absurd H (by simp)
        · rw [if_neg c4] at H
          have c4b0 : decide (x5_1 < (l0.length : Int)) = false := decide_eq_false c4
          clear c4
          obtain rfl := Option.some.inj H
          go_wp2
          repeat (go_quiet (fail); try go_wp2)
          go_ret
          exact ⟨by first | rfl | (simp; done) | (simp [*]; done), by repeat (first | exact Drawn0.refl _ | apply Drawn0.step)⟩
  · rw [if_neg c3] at H
    have c3b0 : ((l0.length : Int) == (l1.length : Int)) = false := beq_eq_false_iff_ne.mpr c3
    have c3b1 : ((l0.length : Int) != (l1.length : Int)) = true := bne_iff_ne.mpr c3
    have c3b2 : (l0.length == l1.length) = false := by first | simpa using c3 | (simp at c3 ⊢; omega)
    obtain rfl := Option.some.inj H
    go_enter Try.func9, Try.ntmps9
    go_wp2
    repeat (go_quiet (fail); try go_wp2)
    go_ret
    exact ⟨by first | rfl | (simp; done) | (simp [*]; done), by repeat (first | exact Drawn0.refl _ | apply Drawn0.step)⟩
end Go.Proofs.Ytnmpjikiodnmnaa.P
end
section
namespace Go.Proofs.Ytnmpjikiodnmnaa.P
open Go.RowKit Go.Proofs.YtnmpjikiodnmnaaW.PrintWords Go.Proofs.YtnmpjikiodnmnaaW.PrintLast Go.Proofs.YtnmpjikiodnmnaaW.PrintMore
attribute [local go_sem] max2_int min2_int max_two min_two max_three min_three max_four min_four   -- for this text's walks alone
set_option linter.unusedVariables false
set_option linter.unusedSimpArgs false
def laws_eqInt64SS.l0 : Nat → List (List Int) → List (List Int) → Int → Option (Bool)
  | 0, _, _, _ => none
  | k + 1, x0, x1, x5 => if x5 < (x0.length : Int) then (if 0 ≤ x5 then (if x5 < (x1.length : Int) then ((laws_eqInt64S.f k (rd_L1 x0 x5) (rd_L1 x1 x5)).bind fun t103 => (if t103 = true then (laws_eqInt64SS.l0 k x0 x1 (wrap64 (x5 + 1))) else (some false))) else (none)) else (none)) else (some true)
def laws_eqInt64SS.f (k : Nat) (l0 : List (List Int)) (l1 : List (List Int)) : Option (Bool) := if (l0.length : Int) = (l1.length : Int) then (laws_eqInt64SS.l0 k l0 l1 0) else (some false)
theorem laws_eqInt64SS.mono_l : ∀ k, (∀ y0 y1 y2, LeO (laws_eqInt64SS.l0 k y0 y1 y2) (laws_eqInt64SS.l0 (k + 1) y0 y1 y2))
  | 0 => fun _ _ _ r h => by simp [laws_eqInt64SS.l0] at h
  | k + 1 => by
    have ih0 := laws_eqInt64SS.mono_l k
    · intro y0 y1 y2
      unfold laws_eqInt64SS.l0
      repeat' first
      | (with_reducible exact ih0 _ _ _)
      | (with_reducible exact laws_eqInt64S.mono _ _ _)
      | (with_reducible exact LeO.refl _)
      | (with_reducible exact LeO.none _)
      | (with_reducible refine LeO.ite ?_ ?_)
      | (with_reducible refine LeO.bind ?_ (fun _ => ?_))
      | exact ih0 _ _ _
      | exact laws_eqInt64S.mono _ _ _
      | exact LeO.none _
      | refine LeO.ite ?_ ?_
      | refine LeO.bind ?_ (fun _ => ?_)
theorem laws_eqInt64SS.mono : ∀ a0 a1 k, LeO (laws_eqInt64SS.f k a0 a1) (laws_eqInt64SS.f (k + 1) a0 a1) := by
  intro a0 a1 k
  have ih0 := laws_eqInt64SS.mono_l k
  unfold laws_eqInt64SS.f
  repeat' first
      | (with_reducible exact ih0 _ _ _)
      | (with_reducible exact laws_eqInt64S.mono _ _ _)
      | (with_reducible exact LeO.refl _)
      | (with_reducible exact LeO.none _)
      | (with_reducible refine LeO.ite ?_ ?_)
      | (with_reducible refine LeO.bind ?_ (fun _ => ?_))
      | exact ih0 _ _ _
      | exact laws_eqInt64S.mono _ _ _
      | exact LeO.none _
      | refine LeO.ite ?_ ?_
      | refine LeO.bind ?_ (fun _ => ?_)
set_option maxHeartbeats 8000000 in
set_option maxRecDepth 100000 in
theorem laws_eqInt64SS.calls (k : Nat) (A0 : Option Addr) (c0 : Nat) (l0 : List (List Int)) (A1 : Option Addr) (c1 : Nat) (l1 : List (List Int)) (r : Bool) (w : World) (hr0 : Kd.C (Kd.slice 2 (Kd.int .i64)) w A0 l0.length l0) (hc0 : l0.length ≤ c0) (hr1 : Kd.C (Kd.slice 2 (Kd.int .i64)) w A1 l1.length l1) (hc1 : l1.length ≤ c1) (h : laws_eqInt64SS.f k l0 l1 = some r) :
    Calls Try.prog 8 #[.slice A0 l0.length c0, .slice A1 l1.length c1] w fun e w' => e = .returned (.bool r) ∧ Drawn0 w w' := by
  have HR0 := Aside0.mk hr0
  have HC0 := Aside0.mk hc0
  clear hr0 hc0
  have HR1 := Aside0.mk hr1
  have HC1 := Aside0.mk hc1
  clear hr1 hc1
  have H : (if (l0.length : Int) = (l1.length : Int) then (laws_eqInt64SS.l0 k l0 l1 0) else (some false)) = some r := h
  clear h
  by_cases c3 : (l0.length : Int) = (l1.length : Int)
  · rw [if_pos c3] at H
    have c3b0 : ((l0.length : Int) == (l1.length : Int)) = true := beq_iff_eq.mpr c3
    have c3b1 : ((l0.length : Int) != (l1.length : Int)) = false := bne_eq_false_iff_eq.mpr c3
    have c3b2 : (l0.length == l1.length) = true := by first | simpa using c3 | (simp at c3 ⊢; omega)
    clear c3
    have H' := Aside0.mk H
    clear H
    go_enter Try.func8, Try.ntmps8
    go_wp2
    repeat (go_quiet (fail); try go_wp2)
    go_loopg [5] k (fun kq v5 w' => ∃ (x5_1 : Int), v5 = .int .i64 x5_1 ∧ Aside0 (laws_eqInt64SS.l0 kq l0 l1 x5_1 = some r) ∧ Aside0 (kq ≤ k) ∧ Drawn0 w w')
    case atStart => exact ⟨(0), (by first | rfl | (simp; done) | (simp [*]; done)), H', ⟨Nat.le_refl _⟩, by repeat (first | exact Drawn0.refl _ | apply Drawn0.step)⟩
    case round =>
      clear H'
      try clear c1
      try clear p2
      try clear c3
      try clear c3b0
      try clear c3b1
      try clear c3b2
      obtain ⟨x5_1, rfl, HA, HK1, ⟨m1, rfl⟩⟩ := hrel
      cases gk with
      | zero => exact absurd HA.out (by simp [laws_eqInt64SS.l0])
      | succ k1 =>
        have H := HA.out
        clear HA
        simp only [laws_eqInt64SS.l0] at H
        by_cases c4 : x5_1 < (l0.length : Int)
        · rw [if_pos c4] at H
          have c4b0 : decide (x5_1 < (l0.length : Int)) = true := decide_eq_true c4
          clear c4
          by_cases c5 : 0 ≤ x5_1
          · rw [if_pos c5] at H
            have c5b0 : decide (0 ≤ x5_1) = true := decide_eq_true c5
            clear c5
            by_cases c6 : x5_1 < (l1.length : Int)
            · rw [if_pos c6] at H
              have c6b0 : decide (x5_1 < (l1.length : Int)) = true := decide_eq_true c6
              clear c6
              replace H := Option.bind_eq_some_iff.mp H
              obtain ⟨t103, A70, H⟩ := H
              replace H : (if t103 = true then (laws_eqInt64SS.l0 k1 l0 l1 (wrap64 (x5_1 + 1))) else (some false)) = some r := H
              have A7 := Aside0.mk A70
              clear A70
              by_cases c8 : t103 = true
              · subst c8
                have H1 : (laws_eqInt64SS.l0 k1 l0 l1 (wrap64 (x5_1 + 1))) = some r := by rw [if_pos rfl] at H; exact H
                clear H
                have H := H1
                clear H1
                have H' := Aside0.mk H
                clear H
                have p101 : 0 ≤ (x5_1 : Int) := of_decide_eq_true (by first | (with_reducible assumption) | assumption)
                have q101 : x5_1 < (l0.length : Int) := of_decide_eq_true (by first | (with_reducible assumption) | assumption)
                obtain ⟨ad101, A101_0, c101_0, e101, hx101_0, hl101_0, hi101_0⟩ := at_L1 HR0.out x5_1 p101 q101
                cases e101
                have HR101_0 := Aside0.mk hi101_0
                have HC101_0 := Aside0.mk hl101_0
                clear hi101_0 hl101_0
                replace p101 := eq_true p101
                replace q101 := eq_true q101
                have p102 : 0 ≤ (x5_1 : Int) := of_decide_eq_true (by first | (with_reducible assumption) | assumption)
                have q102 : x5_1 < (l1.length : Int) := of_decide_eq_true (by first | (with_reducible assumption) | assumption)
                obtain ⟨ad102, A102_0, c102_0, e102, hx102_0, hl102_0, hi102_0⟩ := at_L1 HR1.out x5_1 p102 q102
                cases e102
                have HR102_0 := Aside0.mk hi102_0
                have HC102_0 := Aside0.mk hl102_0
                clear hi102_0 hl102_0
                replace p102 := eq_true p102
                replace q102 := eq_true q102
                go_wp2_with (first | (go_at_call 9; (with_reducible refine (laws_eqInt64S.calls k1 _ _ (rd_L1 l0 x5_1) _ _ (rd_L1 l1 x5_1) true _ ?side1 ?side2 ?side3 ?side4 A7.out).mono ?_); (case side1 => repeat (first | exact HR101_0.out | (with_reducible refine Kd.C_alloc ?_ _) | (with_reducible refine Kd.C_drewN ?_ _) | (with_reducible refine Kd.C_drew ?_))); (case side2 => exact HC101_0.out); (case side3 => repeat (first | exact HR102_0.out | (with_reducible refine Kd.C_alloc ?_ _) | (with_reducible refine Kd.C_drewN ?_ _) | (with_reducible refine Kd.C_drew ?_))); (case side4 => exact HC102_0.out); rintro e w' ⟨rfl, ⟨nd, rfl⟩⟩; (try first | exact ⟨rfl, _, World.drewN_drewN _ _ _⟩ | exact ⟨rfl, _, Eq.trans (World.drewN_drewN _ _ _) (congrArg (World.drewN _) (Nat.add_assoc _ _ _))⟩)))
                repeat (go_quiet (first | (go_at_call 9; (with_reducible refine (laws_eqInt64S.calls k1 _ _ (rd_L1 l0 x5_1) _ _ (rd_L1 l1 x5_1) true _ ?side1 ?side2 ?side3 ?side4 A7.out).mono ?_); (case side1 => repeat (first | exact HR101_0.out | (with_reducible refine Kd.C_alloc ?_ _) | (with_reducible refine Kd.C_drewN ?_ _) | (with_reducible refine Kd.C_drew ?_))); (case side2 => exact HC101_0.out); (case side3 => repeat (first | exact HR102_0.out | (with_reducible refine Kd.C_alloc ?_ _) | (with_reducible refine Kd.C_drewN ?_ _) | (with_reducible refine Kd.C_drew ?_))); (case side4 => exact HC102_0.out); rintro e w' ⟨rfl, ⟨nd, rfl⟩⟩; (try first | exact ⟨rfl, _, World.drewN_drewN _ _ _⟩ | exact ⟨rfl, _, Eq.trans (World.drewN_drewN _ _ _) (congrArg (World.drewN _) (Nat.add_assoc _ _ _))⟩))); try go_wp2_with (first | (go_at_call 9; (with_reducible refine (laws_eqInt64S.calls k1 _ _ (rd_L1 l0 x5_1) _ _ (rd_L1 l1 x5_1) true _ ?side1 ?side2 ?side3 ?side4 A7.out).mono ?_); (case side1 => repeat (first | exact HR101_0.out | (with_reducible refine Kd.C_alloc ?_ _) | (with_reducible refine Kd.C_drewN ?_ _) | (with_reducible refine Kd.C_drew ?_))); (case side2 => exact HC101_0.out); (case side3 => repeat (first | exact HR102_0.out | (with_reducible refine Kd.C_alloc ?_ _) | (with_reducible refine Kd.C_drewN ?_ _) | (with_reducible refine Kd.C_drew ?_))); (case side4 => exact HC102_0.out); rintro e w' ⟨rfl, ⟨nd, rfl⟩⟩; (try first | exact ⟨rfl, _, World.drewN_drewN _ _ _⟩ | exact ⟨rfl, _, Eq.trans (World.drewN_drewN _ _ _) (congrArg (World.drewN _) (Nat.add_assoc _ _ _))⟩))))
                go_roundg k1
                case measure => have := HK1.out; omega
                case rel => exact ⟨(wrap64 (x5_1 + 1)), (by first | rfl | (simp; done) | (simp [*]; done)), H', ⟨by have := HK1.out; omega⟩, by repeat (first | exact Drawn0.refl _ | apply Drawn0.step)⟩
              · replace c8 := Bool.eq_false_iff.mpr c8
                subst c8
                have H1 : (some false) = some r := by rw [if_neg (show ¬ (false = true) by decide)] at H; exact H
                clear H
                have H := H1
                clear H1
                obtain rfl := Option.some.inj H
                have p101 : 0 ≤ (x5_1 : Int) := of_decide_eq_true (by first | (with_reducible assumption) | assumption)
                have q101 : x5_1 < (l0.length : Int) := of_decide_eq_true (by first | (with_reducible assumption) | assumption)
                obtain ⟨ad101, A101_0, c101_0, e101, hx101_0, hl101_0, hi101_0⟩ := at_L1 HR0.out x5_1 p101 q101
                cases e101
                have HR101_0 := Aside0.mk hi101_0
                have HC101_0 := Aside0.mk hl101_0
                clear hi101_0 hl101_0
                replace p101 := eq_true p101
                replace q101 := eq_true q101
                have p102 : 0 ≤ (x5_1 : Int) := of_decide_eq_true (by first | (with_reducible assumption) | assumption)
                have q102 : x5_1 < (l1.length : Int) := of_decide_eq_true (by first | (with_reducible assumption) | assumption)
                obtain ⟨ad102, A102_0, c102_0, e102, hx102_0, hl102_0, hi102_0⟩ := at_L1 HR1.out x5_1 p102 q102
                cases e102
                have HR102_0 := Aside0.mk hi102_0
                have HC102_0 := Aside0.mk hl102_0
                clear hi102_0 hl102_0
                replace p102 := eq_true p102
                replace q102 := eq_true q102
                go_wp2_with (first | (go_at_call 9; (with_reducible refine (laws_eqInt64S.calls k1 _ _ (rd_L1 l0 x5_1) _ _ (rd_L1 l1 x5_1) false _ ?side1 ?side2 ?side3 ?side4 A7.out).mono ?_); (case side1 => repeat (first | exact HR101_0.out | (with_reducible refine Kd.C_alloc ?_ _) | (with_reducible refine Kd.C_drewN ?_ _) | (with_reducible refine Kd.C_drew ?_))); (case side2 => exact HC101_0.out); (case side3 => repeat (first | exact HR102_0.out | (with_reducible refine Kd.C_alloc ?_ _) | (with_reducible refine Kd.C_drewN ?_ _) | (with_reducible refine Kd.C_drew ?_))); (case side4 => exact HC102_0.out); rintro e w' ⟨rfl, ⟨nd, rfl⟩⟩; (try first | exact ⟨rfl, _, World.drewN_drewN _ _ _⟩ | exact ⟨rfl, _, Eq.trans (World.drewN_drewN _ _ _) (congrArg (World.drewN _) (Nat.add_assoc _ _ _))⟩)))
                repeat (go_quiet (first | (go_at_call 9; (with_reducible refine (laws_eqInt64S.calls k1 _ _ (rd_L1 l0 x5_1) _ _ (rd_L1 l1 x5_1) false _ ?side1 ?side2 ?side3 ?side4 A7.out).mono ?_); (case side1 => repeat (first | exact HR101_0.out | (with_reducible refine Kd.C_alloc ?_ _) | (with_reducible refine Kd.C_drewN ?_ _) | (with_reducible refine Kd.C_drew ?_))); (case side2 => exact HC101_0.out); (case side3 => repeat (first | exact HR102_0.out | (with_reducible refine Kd.C_alloc ?_ _) | (with_reducible refine Kd.C_drewN ?_ _) | (with_reducible refine Kd.C_drew ?_))); (case side4 => exact HC102_0.out); rintro e w' ⟨rfl, ⟨nd, rfl⟩⟩; (try first | exact ⟨rfl, _, World.drewN_drewN _ _ _⟩ | exact ⟨rfl, _, Eq.trans (World.drewN_drewN _ _ _) (congrArg (World.drewN _) (Nat.add_assoc _ _ _))⟩))); try go_wp2_with (first | (go_at_call 9; (with_reducible refine (laws_eqInt64S.calls k1 _ _ (rd_L1 l0 x5_1) _ _ (rd_L1 l1 x5_1) false _ ?side1 ?side2 ?side3 ?side4 A7.out).mono ?_); (case side1 => repeat (first | exact HR101_0.out | (with_reducible refine Kd.C_alloc ?_ _) | (with_reducible refine Kd.C_drewN ?_ _) | (with_reducible refine Kd.C_drew ?_))); (case side2 => exact HC101_0.out); (case side3 => repeat (first | exact HR102_0.out | (with_reducible refine Kd.C_alloc ?_ _) | (with_reducible refine Kd.C_drewN ?_ _) | (with_reducible refine Kd.C_drew ?_))); (case side4 => exact HC102_0.out); rintro e w' ⟨rfl, ⟨nd, rfl⟩⟩; (try first | exact ⟨rfl, _, World.drewN_drewN _ _ _⟩ | exact ⟨rfl, _, Eq.trans (World.drewN_drewN _ _ _) (congrArg (World.drewN _) (Nat.add_assoc _ _ _))⟩))))
                go_ret
                exact ⟨by first | rfl | (simp; done) | (simp [*]; done), by repeat (first | exact Drawn0.refl _ | apply Drawn0.step)⟩
            · rw [if_neg c6] at H
              exact absurd H (by simp)
          · rw [if_neg c5] at H
            exact absurd H (by simp)
        · rw [if_neg c4] at H
          have c4b0 : decide (x5_1 < (l0.length : Int)) = false := decide_eq_false c4
          clear c4
          obtain rfl := Option.some.inj H
          go_wp2
          repeat (go_quiet (fail); try go_wp2)
          go_ret
          exact ⟨by first | rfl | (simp; done) | (simp [*]; done), by repeat (first | exact Drawn0.refl _ | apply Drawn0.step)⟩
  · rw [if_neg c3] at H
    have c3b0 : ((l0.length : Int) == (l1.length : Int)) = false := beq_eq_false_iff_ne.mpr c3
    have c3b1 : ((l0.length : Int) != (l1.length : Int)) = true := bne_iff_ne.mpr c3
    have c3b2 : (l0.length == l1.length) = false := by first | simpa using c3 | (simp at c3 ⊢; omega)
    obtain rfl := Option.some.inj H
    go_enter Try.func8, Try.ntmps8
    go_wp2
    repeat (go_quiet (fail); try go_wp2)
    go_ret
    exact ⟨by first | rfl | (simp; done) | (simp [*]; done), by repeat (first | exact Drawn0.refl _ | apply Drawn0.step)⟩
end Go.Proofs.Ytnmpjikiodnmnaa.P
end
section
namespace Go.Proofs.Ytnmpjikiodnmnaa.P
open Go.RowKit Go.Proofs.YtnmpjikiodnmnaaW.PrintWords Go.Proofs.YtnmpjikiodnmnaaW.PrintLast Go.Proofs.YtnmpjikiodnmnaaW.PrintMore
attribute [local go_sem] max2_int min2_int max_two min_two max_three min_three max_four min_four   -- for this text's walks alone
set_option linter.unusedVariables false
set_option linter.unusedSimpArgs false
def laws_heldInt64S.l0 : Nat → List Int → Int → Int → Option (Int)
  | 0, _, _, _ => none
  | k + 1, x0, x1, x5 => if x5 < (x0.length : Int) then (if 0 ≤ x5 then (if (rd x0 x5) = x1 then (laws_heldInt64S.l0 k x0 (wrap64 (x1 + 1)) (wrap64 (x5 + 1))) else (some (-1))) else (none)) else (some x1)
def laws_heldInt64S.f (k : Nat) (l0 : List Int) (a1 : Int) : Option (Int) := laws_heldInt64S.l0 k l0 a1 0
theorem laws_heldInt64S.mono_l : ∀ k, (∀ y0 y1 y2, LeO (laws_heldInt64S.l0 k y0 y1 y2) (laws_heldInt64S.l0 (k + 1) y0 y1 y2))
  | 0 => fun _ _ _ r h => by simp [laws_heldInt64S.l0] at h
  | k + 1 => by
    have ih0 := laws_heldInt64S.mono_l k
    · intro y0 y1 y2
      unfold laws_heldInt64S.l0
      repeat' first
      | (with_reducible exact ih0 _ _ _)
      | (with_reducible exact LeO.refl _)
      | (with_reducible exact LeO.none _)
      | (with_reducible refine LeO.ite ?_ ?_)
      | (with_reducible refine LeO.bind ?_ (fun _ => ?_))
      | exact ih0 _ _ _
      | exact LeO.none _
      | refine LeO.ite ?_ ?_
      | refine LeO.bind ?_ (fun _ => ?_)
theorem laws_heldInt64S.mono : ∀ a0 a1 k, LeO (laws_heldInt64S.f k a0 a1) (laws_heldInt64S.f (k + 1) a0 a1) := by
  intro a0 a1 k
  have ih0 := laws_heldInt64S.mono_l k
  unfold laws_heldInt64S.f
  repeat' first
      | (with_reducible exact ih0 _ _ _)
      | (with_reducible exact LeO.refl _)
      | (with_reducible exact LeO.none _)
      | (with_reducible refine LeO.ite ?_ ?_)
      | (with_reducible refine LeO.bind ?_ (fun _ => ?_))
      | exact ih0 _ _ _
      | exact LeO.none _
      | refine LeO.ite ?_ ?_
      | refine LeO.bind ?_ (fun _ => ?_)
set_option maxHeartbeats 8000000 in
set_option maxRecDepth 100000 in
theorem laws_heldInt64S.calls (k : Nat) (A0 : Option Addr) (c0 : Nat) (l0 : List Int) (a1 : Int) (r : Int) (w : World) (hr0 : Kd.C (Kd.int .i64) w A0 l0.length l0) (hc0 : l0.length ≤ c0) (h : laws_heldInt64S.f k l0 a1 = some r) :
    Calls Try.prog 34 #[.slice A0 l0.length c0, .int .i64 a1] w fun e w' => e = .returned (.int .i64 r) ∧ Drawn0 w w' := by
  have HR0 := Aside0.mk hr0
  have HC0 := Aside0.mk hc0
  clear hr0 hc0
  have H : (laws_heldInt64S.l0 k l0 a1 0) = some r := h
  clear h
  have H' := Aside0.mk H
  clear H
  go_enter Try.func34, Try.ntmps34
  go_wp2
  go_loopg [1, 5] k (fun kq v1 v5 w' => ∃ (x1_1 : Int) (x5_1 : Int), v1 = .int .i64 x1_1 ∧ v5 = .int .i64 x5_1 ∧ Aside0 (laws_heldInt64S.l0 kq l0 x1_1 x5_1 = some r) ∧ Aside0 (kq ≤ k) ∧ Drawn0 w w')
  case atStart => exact ⟨(a1), (0), (by first | rfl | (simp; done) | (simp [*]; done)), (by first | rfl | (simp; done) | (simp [*]; done)), H', ⟨Nat.le_refl _⟩, by repeat (first | exact Drawn0.refl _ | apply Drawn0.step)⟩
  case round =>
    clear H'
    try clear p2
    obtain ⟨x1_1, x5_1, rfl, rfl, HA, HK1, ⟨m1, rfl⟩⟩ := hrel
    cases gk with
    | zero => exact absurd HA.out (by simp [laws_heldInt64S.l0])
    | succ k1 =>
      have H := HA.out
      clear HA
      simp only [laws_heldInt64S.l0] at H
      by_cases c3 : x5_1 < (l0.length : Int)
      · rw [if_pos c3] at H
        have c3b0 : decide (x5_1 < (l0.length : Int)) = true := decide_eq_true c3
        clear c3
        by_cases c4 : 0 ≤ x5_1
        · rw [if_pos c4] at H
          have c4b0 : decide (0 ≤ x5_1) = true := decide_eq_true c4
          clear c4
          by_cases c5 : (rd l0 x5_1) = x1_1
          · rw [if_pos c5] at H
            have c5b0 : ((rd l0 x5_1) == x1_1) = true := beq_iff_eq.mpr c5
            have c5b1 : ((rd l0 x5_1) != x1_1) = false := bne_eq_false_iff_eq.mpr c5
            clear c5
            have H' := Aside0.mk H
            clear H
            have p101 : 0 ≤ (x5_1 : Int) := of_decide_eq_true (by first | (with_reducible assumption) | assumption)
            have q101 : x5_1 < (l0.length : Int) := of_decide_eq_true (by first | (with_reducible assumption) | assumption)
            obtain ⟨ad101, e101, hx101_0⟩ := Kd.at_int HR0.out x5_1 p101 q101
            cases e101
            replace p101 := eq_true p101
            replace q101 := eq_true q101
            go_wp2
            go_roundg k1
            case measure => have := HK1.out; omega
            case rel => exact ⟨(wrap64 (x1_1 + 1)), (wrap64 (x5_1 + 1)), (by first | rfl | (simp; done) | (simp [*]; done)), (by first | rfl | (simp; done) | (simp [*]; done)), H', ⟨by have := HK1.out; omega⟩, by repeat (first | exact Drawn0.refl _ | apply Drawn0.step)⟩
          · rw [if_neg c5] at H
            have c5b0 : ((rd l0 x5_1) == x1_1) = false := beq_eq_false_iff_ne.mpr c5
            have c5b1 : ((rd l0 x5_1) != x1_1) = true := bne_iff_ne.mpr c5
            obtain rfl := Option.some.inj H
            have p101 : 0 ≤ (x5_1 : Int) := of_decide_eq_true (by first | (with_reducible assumption) | assumption)
            have q101 : x5_1 < (l0.length : Int) := of_decide_eq_true (by first | (with_reducible assumption) | assumption)
            obtain ⟨ad101, e101, hx101_0⟩ := Kd.at_int HR0.out x5_1 p101 q101
            cases e101
            replace p101 := eq_true p101
            replace q101 := eq_true q101
            go_wp2
            go_ret
            exact ⟨by first | rfl | (simp; done) | (simp [*]; done), by repeat (first | exact Drawn0.refl _ | apply Drawn0.step)⟩
        · rw [if_neg c4] at H
          exact absurd H (by simp)
      · rw [if_neg c3] at H
        have c3b0 : decide (x5_1 < (l0.length : Int)) = false := decide_eq_false c3
        clear c3
        obtain rfl := Option.some.inj H
        go_wp2
        go_ret
        exact ⟨by first | rfl | (simp; done) | (simp [*]; done), by repeat (first | exact Drawn0.refl _ | apply Drawn0.step)⟩
end Go.Proofs.Ytnmpjikiodnmnaa.P
end
section
namespace Go.Proofs.Ytnmpjikiodnmnaa.P
open Go.RowKit Go.Proofs.YtnmpjikiodnmnaaW.PrintWords Go.Proofs.YtnmpjikiodnmnaaW.PrintLast Go.Proofs.YtnmpjikiodnmnaaW.PrintMore
attribute [local go_sem] max2_int min2_int max_two min_two max_three min_three max_four min_four   -- for this text's walks alone
set_option linter.unusedVariables false
set_option linter.unusedSimpArgs false
def laws_heldInt64SS.l0 : Nat → List (List Int) → Int → Int → Option (Int)
  | 0, _, _, _ => none
  | k + 1, x0, x1, x5 => if x5 < (x0.length : Int) then (if 0 ≤ x5 then ((laws_heldInt64S.f k (rd_L1 x0 x5) x1).bind fun t102 => (if t102 < 0 then (some (-1)) else (laws_heldInt64SS.l0 k x0 t102 (wrap64 (x5 + 1))))) else (none)) else (some x1)
def laws_heldInt64SS.f (k : Nat) (l0 : List (List Int)) (a1 : Int) : Option (Int) := laws_heldInt64SS.l0 k l0 a1 0
theorem laws_heldInt64SS.mono_l : ∀ k, (∀ y0 y1 y2, LeO (laws_heldInt64SS.l0 k y0 y1 y2) (laws_heldInt64SS.l0 (k + 1) y0 y1 y2))
  | 0 => fun _ _ _ r h => by simp [laws_heldInt64SS.l0] at h
  | k + 1 => by
    have ih0 := laws_heldInt64SS.mono_l k
    · intro y0 y1 y2
      unfold laws_heldInt64SS.l0
      repeat' first
      | (with_reducible exact ih0 _ _ _)
      | (with_reducible exact laws_heldInt64S.mono _ _ _)
      | (with_reducible exact LeO.refl _)
      | (with_reducible exact LeO.none _)
      | (with_reducible refine LeO.ite ?_ ?_)
      | (with_reducible refine LeO.bind ?_ (fun _ => ?_))
      | exact ih0 _ _ _
      | exact laws_heldInt64S.mono _ _ _
      | exact LeO.none _
      | refine LeO.ite ?_ ?_
      | refine LeO.bind ?_ (fun _ => ?_)
theorem laws_heldInt64SS.mono : ∀ a0 a1 k, LeO (laws_heldInt64SS.f k a0 a1) (laws_heldInt64SS.f (k + 1) a0 a1) := by
  intro a0 a1 k
  have ih0 := laws_heldInt64SS.mono_l k
  unfold laws_heldInt64SS.f
  repeat' first
      | (with_reducible exact ih0 _ _ _)
      | (with_reducible exact laws_heldInt64S.mono _ _ _)
      | (with_reducible exact LeO.refl _)
      | (with_reducible exact LeO.none _)
      | (with_reducible refine LeO.ite ?_ ?_)
      | (with_reducible refine LeO.bind ?_ (fun _ => ?_))
      | exact ih0 _ _ _
      | exact laws_heldInt64S.mono _ _ _
      | exact LeO.none _
      | refine LeO.ite ?_ ?_
      | refine LeO.bind ?_ (fun _ => ?_)
set_option maxHeartbeats 8000000 in
set_option maxRecDepth 100000 in
theorem laws_heldInt64SS.calls (k : Nat) (A0 : Option Addr) (c0 : Nat) (l0 : List (List Int)) (a1 : Int) (r : Int) (w : World) (hr0 : Kd.C (Kd.slice 2 (Kd.int .i64)) w A0 l0.length l0) (hc0 : l0.length ≤ c0) (h : laws_heldInt64SS.f k l0 a1 = some r) :
    Calls Try.prog 12 #[.slice A0 l0.length c0, .int .i64 a1] w fun e w' => e = .returned (.int .i64 r) ∧ Drawn0 w w' := by
  have HR0 := Aside0.mk hr0
  have HC0 := Aside0.mk hc0
  clear hr0 hc0
  have H : (laws_heldInt64SS.l0 k l0 a1 0) = some r := h
  clear h
  have H' := Aside0.mk H
  clear H
  go_enter Try.func12, Try.ntmps12
  go_wp2
  go_loopg [1, 5] k (fun kq v1 v5 w' => ∃ (x1_1 : Int) (x5_1 : Int), v1 = .int .i64 x1_1 ∧ v5 = .int .i64 x5_1 ∧ Aside0 (laws_heldInt64SS.l0 kq l0 x1_1 x5_1 = some r) ∧ Aside0 (kq ≤ k) ∧ Drawn0 w w')
  case atStart => exact ⟨(a1), (0), (by first | rfl | (simp; done) | (simp [*]; done)), (by first | rfl | (simp; done) | (simp [*]; done)), H', ⟨Nat.le_refl _⟩, by repeat (first | exact Drawn0.refl _ | apply Drawn0.step)⟩
  case round =>
    clear H'
    try clear c1
    try clear p2
    obtain ⟨x1_1, x5_1, rfl, rfl, HA, HK1, ⟨m1, rfl⟩⟩ := hrel
    cases gk with
    | zero => exact absurd HA.out (by simp [laws_heldInt64SS.l0])
    | succ k1 =>
      have H := HA.out
      clear HA
      simp only [laws_heldInt64SS.l0] at H
      by_cases c3 : x5_1 < (l0.length : Int)
      · rw [if_pos c3] at H
        have c3b0 : decide (x5_1 < (l0.length : Int)) = true := decide_eq_true c3
        clear c3
        by_cases c4 : 0 ≤ x5_1
        · rw [if_pos c4] at H
          have c4b0 : decide (0 ≤ x5_1) = true := decide_eq_true c4
          clear c4
          replace H := Option.bind_eq_some_iff.mp H
          obtain ⟨t102, A50, H⟩ := H
          replace H : (if t102 < 0 then (some (-1)) else (laws_heldInt64SS.l0 k1 l0 t102 (wrap64 (x5_1 + 1)))) = some r := H
          have A5 := Aside0.mk A50
          clear A50
          by_cases c6 : t102 < 0
          · rw [if_pos c6] at H
            have c6b0 : decide (t102 < 0) = true := decide_eq_true c6
            clear c6
            obtain rfl := Option.some.inj H
            have p101 : 0 ≤ (x5_1 : Int) := of_decide_eq_true (by first | (with_reducible assumption) | assumption)
            have q101 : x5_1 < (l0.length : Int) := of_decide_eq_true (by first | (with_reducible assumption) | assumption)
            obtain ⟨ad101, A101_0, c101_0, e101, hx101_0, hl101_0, hi101_0⟩ := at_L1 HR0.out x5_1 p101 q101
            cases e101
            have HR101_0 := Aside0.mk hi101_0
            have HC101_0 := Aside0.mk hl101_0
            clear hi101_0 hl101_0
            replace p101 := eq_true p101
            replace q101 := eq_true q101
            go_wp2_with (first | ((with_reducible refine gate_callee (f := 34) rfl ?_); refine goesL_ (some 17) rfl rfl Try.func34 (by kernel_rfl) rfl #[.slice A101_0 (rd_L1 l0 x5_1).length c101_0, .int .i64 x1_1] rfl (by (try simp only [List.map_toArray, List.map_cons, List.map_nil]); first | done | rfl | (simp only [List.length_drop, List.length_take]; rfl)) ?_; (with_reducible refine (laws_heldInt64S.calls k1 _ _ (rd_L1 l0 x5_1) x1_1 t102 _ ?side1 ?side2 A5.out).mono ?_); (case side1 => repeat (first | exact HR101_0.out | (with_reducible refine Kd.C_alloc ?_ _) | (with_reducible refine Kd.C_drewN ?_ _) | (with_reducible refine Kd.C_drew ?_))); (case side2 => exact HC101_0.out); rintro e w' ⟨rfl, ⟨nd, rfl⟩⟩; refine ⟨_, rfl, ?_⟩))
            go_ret
            exact ⟨by first | rfl | (simp; done) | (simp [*]; done), by repeat (first | exact Drawn0.refl _ | apply Drawn0.step)⟩
          · rw [if_neg c6] at H
            have c6b0 : decide (t102 < 0) = false := decide_eq_false c6
            clear c6
            have H' := Aside0.mk H
            clear H
            have p101 : 0 ≤ (x5_1 : Int) := of_decide_eq_true (by first | (with_reducible assumption) | assumption)
            have q101 : x5_1 < (l0.length : Int) := of_decide_eq_true (by first | (with_reducible assumption) | assumption)
            obtain ⟨ad101, A101_0, c101_0, e101, hx101_0, hl101_0, hi101_0⟩ := at_L1 HR0.out x5_1 p101 q101
            cases e101
            have HR101_0 := Aside0.mk hi101_0
            have HC101_0 := Aside0.mk hl101_0
            clear hi101_0 hl101_0
            replace p101 := eq_true p101
            replace q101 := eq_true q101
            go_wp2_with (first | ((with_reducible refine gate_callee (f := 34) rfl ?_); refine goesL_ (some 17) rfl rfl Try.func34 (by kernel_rfl) rfl #[.slice A101_0 (rd_L1 l0 x5_1).length c101_0, .int .i64 x1_1] rfl (by (try simp only [List.map_toArray, List.map_cons, List.map_nil]); first | done | rfl | (simp only [List.length_drop, List.length_take]; rfl)) ?_; (with_reducible refine (laws_heldInt64S.calls k1 _ _ (rd_L1 l0 x5_1) x1_1 t102 _ ?side1 ?side2 A5.out).mono ?_); (case side1 => repeat (first | exact HR101_0.out | (with_reducible refine Kd.C_alloc ?_ _) | (with_reducible refine Kd.C_drewN ?_ _) | (with_reducible refine Kd.C_drew ?_))); (case side2 => exact HC101_0.out); rintro e w' ⟨rfl, ⟨nd, rfl⟩⟩; refine ⟨_, rfl, ?_⟩))
            go_roundg k1
            case measure => have := HK1.out; omega
            case rel => exact ⟨(t102), (wrap64 (x5_1 + 1)), (by first | rfl | (simp; done) | (simp [*]; done)), (by first | rfl | (simp; done) | (simp [*]; done)), H', ⟨by have := HK1.out; omega⟩, by repeat (first | exact Drawn0.refl _ | apply Drawn0.step)⟩
        · rw [if_neg c4] at H
          exact absurd H (by simp)
      · rw [if_neg c3] at H
        have c3b0 : decide (x5_1 < (l0.length : Int)) = false := decide_eq_false c3
        clear c3
        obtain rfl := Option.some.inj H
        go_wp2
        go_ret
        exact ⟨by first | rfl | (simp; done) | (simp [*]; done), by repeat (first | exact Drawn0.refl _ | apply Drawn0.step)⟩
end Go.Proofs.Ytnmpjikiodnmnaa.P
end
section
namespace Go.Proofs.Ytnmpjikiodnmnaa.P
open Go.RowKit Go.Proofs.YtnmpjikiodnmnaaW.PrintWords Go.Proofs.YtnmpjikiodnmnaaW.PrintLast Go.Proofs.YtnmpjikiodnmnaaW.PrintMore
attribute [local go_sem] max2_int min2_int max_two min_two max_three min_three max_four min_four   -- for this text's walks alone
set_option linter.unusedVariables false
set_option linter.unusedSimpArgs false
def laws_FnExactPutSets.f (k : Nat) (a0 a1 : Int) (l1 : List Int) : Option Bool :=
  if (l1.length : Int) > 1048576 then some true else
  (laws_toInt64S.f k l1).bind fun x => if x = l1 then
  (spec_PutSets.f k a0 a1 l1).bind fun v => (impl_PutSets.f k a0 a1 l1).bind fun g => if g = v then
  (laws_eqInt64SS.f k v.1 v.1).bind fun b1 => if b1 = true then
  (laws_eqInt64S.f k l1 l1).bind fun b2 => if b2 = true then
  (laws_markInt64S.f k l1 1).bind fun m1 => if 0 ≤ m1.1 then
  (laws_markInt64SS.f k v.1 1).bind fun m2 => (laws_heldInt64SS.f k m2.2 1).bind fun q => if 0 ≤ q ∧ q = m2.1 then some true
  else none else none else none else none else none else none
/-- THE ONE PURE STATEMENT. -/
def laws_FnExactPutSets.Pure : Prop := ∀ (a0 a1 : Int) (l1 : List Int), okInt .i64 a0 → okInt .i64 a1 → okRow (okInt .i64) l1 → ∃ k, laws_FnExactPutSets.f k a0 a1 l1 = some true
set_option maxHeartbeats 16000000 in
set_option maxRecDepth 100000 in
theorem laws_FnExactPutSets.walk (P : laws_FnExactPutSets.Pure) (a0 a1 : Int) (A1 : Option Addr) (c1 : Nat) (l1 : List Int) (w : World) (hr1 : Kd.C (Kd.int .i64) w A1 l1.length l1) (hc1 : l1.length ≤ c1) (w0 : okInt .i64 a0) (wm : okInt .i64 a1) (w1 : okRow (okInt .i64) l1) :
    Calls Try.prog 3 #[.int .i64 a0, .int .i64 a1, .slice A1 l1.length c1] w fun e w' => e = .returned (.bool true) ∧ Below w.heap.size w w' := by
  obtain ⟨k, h⟩ := P a0 a1 l1 w0 wm w1
  unfold laws_FnExactPutSets.f at h
  have HR1 := Aside0.mk hr1
  have HC1 := Aside0.mk hc1
  have HB := Aside0.mk (Below.refl w.heap.size w)
  clear hr1 hc1 w0 wm w1 P
  by_cases ct : (l1.length : Int) > 1048576
  · have d1 : decide ((l1.length : Int) > 1048576) = true := decide_eq_true ct
    have d1b : decide ((1048576 : Int) < (l1.length : Int)) = true := decide_eq_true (by omega)
    clear h ct
    go_enter Try.func3, Try.ntmps3
    go_wp2
    go_ret
    exact ⟨rfl, HB.out⟩
  · rw [if_neg ct] at h
    obtain ⟨x, e2, h⟩ := Option.bind_eq_some_iff.mp h
    split at h
    · next ex =>
      subst ex
      obtain ⟨⟨c, er⟩, e3, h⟩ := Option.bind_eq_some_iff.mp h
      obtain ⟨g, e4, h⟩ := Option.bind_eq_some_iff.mp h
      split at h
      · next eg =>
        subst eg
        obtain ⟨b1, e5, h⟩ := Option.bind_eq_some_iff.mp h
        split at h
        · next eb =>
          subst eb
          obtain ⟨b2, e6, h⟩ := Option.bind_eq_some_iff.mp h
          split at h
          · next eb =>
            subst eb
            obtain ⟨⟨q1, xm⟩, e7, h⟩ := Option.bind_eq_some_iff.mp h
            split at h
            · next hq1 =>
              obtain ⟨⟨q2, cm⟩, e8, h⟩ := Option.bind_eq_some_iff.mp h
              obtain ⟨q3, e9, h⟩ := Option.bind_eq_some_iff.mp h
              split at h
              · next hq =>
                obtain ⟨hq2, hq3⟩ := hq
                have hq3 : q3 = q2 := hq3
                subst hq3
                have hq1 : 0 ≤ q1 := hq1
                have d1 : decide ((x.length : Int) > 1048576) = false := decide_eq_false ct
                have d1b : decide ((1048576 : Int) < (x.length : Int)) = false := decide_eq_false (by omega)
                have d2 : decide (q1 < 0) = false := decide_eq_false (by omega)
                have d3 : decide (q3 < 0) = false := decide_eq_false (by omega)
                have E2 := Aside0.mk e2
                have E3 := Aside0.mk e3
                have E4 := Aside0.mk e4
                have E5 := Aside0.mk e5
                have E6 := Aside0.mk e6
                have E7 := Aside0.mk e7
                have E8 := Aside0.mk e8
                have E9 := Aside0.mk e9
                have T1 := Aside0.mk trivial
                have T2 := Aside0.mk trivial
                have T3 := Aside0.mk trivial
                have T4 := Aside0.mk trivial
                have T5 := Aside0.mk trivial
                have T6 := Aside0.mk trivial
                have T7 := Aside0.mk trivial
                have T8 := Aside0.mk trivial
                clear h e2 e3 e4 e5 e6 e7 e8 e9 hq1 hq2 ct
                go_enter Try.func3, Try.ntmps3
                go_wp2_with (first
                  | (go_at_call 6; clear T1; refine (laws_toInt64S.calls k A1 c1 _ _ _ (Kd.C_below HR1.out HB.out) HC1.out E2.out).mono ?_; rintro e wa ⟨va, rfl, hS, hb⟩; obtain ⟨Aa, ca, rfl, hla, hCa⟩ := Kd.R_reads hS; have HCA := Aside0.mk hCa; have HLA := Aside0.mk hla; have n0_ := Aside0.mk (below_step HB.out hb); clear HB hS hb hCa hla; have HB := n0_; clear n0_)
                  | (go_at_call 5; refine (spec_PutSets.calls k a0 a1 Aa ca _ c er _ HCA.out HLA.out E3.out).mono ?_; rintro e wb ⟨vw, rfl, hS, hb⟩; obtain ⟨Aw, cw, rfl⟩ := Kd.S_slice hS; have HW := Aside0.mk (Kd.S_mono (ok' := fun k_ => k_ < wb.heap.size) (Kd.S_lower (Kd.S_bound hS) (below_size HB.out)) (fun k_ hk => hk.2.2.1)); have n0_ := Aside0.mk (below_step HB.out hb); clear HB hS hb HCA HLA; have HB := n0_; clear n0_)
                  | (go_at_call 6; clear T2; refine (laws_toInt64S.calls k A1 c1 _ _ _ (Kd.C_below HR1.out HB.out) HC1.out E2.out).mono ?_; rintro e wc ⟨vx, rfl, hS, hb⟩; obtain ⟨Ax, cx, rfl⟩ := Kd.R_slice hS; have HX := Aside0.mk (Kd.R_mono (ok' := fun k_ => wb.heap.size ≤ k_ ∧ k_ < wc.heap.size) (Kd.R_lower (Kd.R_bound hS) (below_size HB.out)) (fun k_ hk => ⟨hk.2.1, hk.2.2.1⟩)); have n0_ := Aside0.mk (below_step HB.out hb); have n1_ := Aside0.mk (Kd.S_kept HW.out (Kept.of_below hb (fun _ => False)) (fun _ _ h_ => h_)); have HBC := Aside0.mk hb.size; clear HB HW hS hb; have HB := n0_; have HW := n1_; clear n0_ n1_)
                  | (go_at_call 7; clear T3; refine (impl_PutSets.calls k a0 a1 Ax cx _ c er _ (Kd.R_reads' HX.out).2.2 (Kd.R_reads' HX.out).2.1 E4.out).mono ?_; rintro e wd ⟨vg, rfl, hS, hb⟩; obtain ⟨Ag, cg, rfl⟩ := Kd.S_slice hS; have HG := Aside0.mk (Kd.S_mono (ok' := fun k_ => wc.heap.size ≤ k_ ∧ k_ < wd.heap.size) (Kd.S_lower (Kd.S_bound hS) (below_size HB.out)) (fun k_ hk => ⟨hk.2.1, hk.2.2.1⟩)); have n0_ := Aside0.mk (below_step HB.out hb); have n1_ := Aside0.mk (Kd.S_kept HW.out (Kept.of_below hb (fun _ => False)) (fun _ _ h_ => h_)); have n2_ := Aside0.mk (Kd.R_kept HX.out (Kept.of_below hb (fun _ => False)) (fun _ _ h_ => h_)); clear HB HW HX hS hb; have HB := n0_; have HW := n1_; have HX := n2_; clear n0_ n1_ n2_)
                  | (go_at_call 8; clear T4; refine (laws_eqInt64SS.calls k Ag cg c Aw cw c true _ (Kd.S_reads' HG.out).2.2 (Kd.S_reads' HG.out).2.1 (Kd.S_reads' HW.out).2.2 (Kd.S_reads' HW.out).2.1 E5.out).mono ?_; rintro e w' ⟨rfl, ⟨n1, rfl⟩⟩; have n0_ := Aside0.mk (pw_below_drewN HB.out n1); have n1_ := Aside0.mk (Kd.S_drewN HW.out n1); have n2_ := Aside0.mk (Kd.R_drewN HX.out n1); have n3_ := Aside0.mk (Kd.S_drewN HG.out n1); clear HB HW HX HG; have HB := n0_; have HW := n1_; have HX := n2_; have HG := n3_; clear n0_ n1_ n2_ n3_)
                  | (go_at_call 6; clear T5; refine (laws_toInt64S.calls k A1 c1 _ _ _ (Kd.C_below HR1.out HB.out) HC1.out E2.out).mono ?_; rintro e we ⟨vt, rfl, hS, hb⟩; obtain ⟨At, ct, rfl, hlt, hCt⟩ := Kd.R_reads hS; have HCT := Aside0.mk hCt; have HLT := Aside0.mk hlt; have n0_ := Aside0.mk (below_step HB.out hb); have n1_ := Aside0.mk (Kd.S_kept HW.out (Kept.of_below hb (fun _ => False)) (fun _ _ h_ => h_)); have n2_ := Aside0.mk (Kd.R_kept HX.out (Kept.of_below hb (fun _ => False)) (fun _ _ h_ => h_)); have n3_ := Aside0.mk (Kd.S_kept HG.out (Kept.of_below hb (fun _ => False)) (fun _ _ h_ => h_)); clear HB HW HX HG hS hb hlt hCt; have HB := n0_; have HW := n1_; have HX := n2_; have HG := n3_; clear n0_ n1_ n2_ n3_)
                  | (go_at_call 9; clear T6; refine (laws_eqInt64S.calls k Ax cx _ At ct _ true _ (Kd.R_reads' HX.out).2.2 (Kd.R_reads' HX.out).2.1 HCT.out HLT.out E6.out).mono ?_; rintro e w' ⟨rfl, ⟨n2, rfl⟩⟩; have n0_ := Aside0.mk (pw_below_drewN HB.out n2); have n1_ := Aside0.mk (Kd.S_drewN HW.out n2); have n2_ := Aside0.mk (Kd.R_drewN HX.out n2); have n3_ := Aside0.mk (Kd.S_drewN HG.out n2); clear HB HW HX HG HCT HLT; have HB := n0_; have HW := n1_; have HX := n2_; have HG := n3_; clear n0_ n1_ n2_ n3_)
                  | (go_at_call 10; refine (laws_markInt64S.calls k (fun k_ => wb.heap.size ≤ k_ ∧ k_ < wc.heap.size) _ _ 1 q1 xm w _ HB.out HX.out E7.out).mono ?_; clear T7; rintro e wf ⟨rfl, hS, hb, hk⟩; have n0_ := Aside0.mk hb; have n1_ := Aside0.mk (Kd.S_kept HW.out hk (fun k_ h1_ h2_ => by omega)); have n3_ := Aside0.mk (Kd.S_kept HG.out hk (fun k_ h1_ h2_ => by omega)); clear HB HW HX HG hS hb hk; have HB := n0_; have HW := n1_; have HG := n3_; clear n0_ n1_ n3_; have T9 := Aside0.mk trivial)
                  | (go_at_call 8; clear T9; refine (laws_eqInt64SS.calls k Ag cg c Aw cw c true _ (Kd.S_reads' HG.out).2.2 (Kd.S_reads' HG.out).2.1 (Kd.S_reads' HW.out).2.2 (Kd.S_reads' HW.out).2.1 E5.out).mono ?_; rintro e w' ⟨rfl, ⟨n3, rfl⟩⟩; have n0_ := Aside0.mk (pw_below_drewN HB.out n3); have n1_ := Aside0.mk (Kd.S_drewN HW.out n3); have n3_ := Aside0.mk (Kd.S_drewN HG.out n3); clear HB HW HG; have HB := n0_; have HW := n1_; have HG := n3_; clear n0_ n1_ n3_; have T10 := Aside0.mk trivial)
                  | (go_at_call 11; clear T10; refine (laws_markInt64SS.calls k (fun k_ => wc.heap.size ≤ k_ ∧ k_ < wd.heap.size) _ c 1 q3 cm w _ HB.out HG.out E8.out).mono ?_; rintro e wg ⟨rfl, hS, hb, hk⟩; have n0_ := Aside0.mk hb; have n1_ := Aside0.mk (Kd.S_kept HW.out hk (fun k_ h1_ h2_ => by have := HBC.out; omega)); have n3_ := Aside0.mk hS; clear HB HW HG hS hb hk; have HB := n0_; have HW := n1_; have HG := n3_; clear n0_ n1_ n3_; have T11 := Aside0.mk trivial)
                  | (go_at_call 12; clear T11; have hh := fun W C => laws_heldInt64SS.calls k Ag cg cm 1 q3 W C (by have := (Kd.S_reads' HG.out).1; have := (Kd.S_reads' HG.out).2.1; omega) E9.out; rw [← (Kd.S_reads' HG.out).1] at hh; refine (hh _ ((Kd.S_reads' HG.out).1 ▸ (Kd.S_reads' HG.out).2.2)).mono ?_; clear hh; rintro e w' ⟨rfl, ⟨n4, rfl⟩⟩; have n0_ := Aside0.mk (pw_below_drewN HB.out n4); have n1_ := Aside0.mk (Kd.S_drewN HW.out n4); have n3_ := Aside0.mk (Kd.S_drewN HG.out n4); clear HB HW HG; have HB := n0_; have HW := n1_; have HG := n3_; clear n0_ n1_ n3_; have T12 := Aside0.mk trivial)
                  | (go_at_call 6; clear T12; refine (laws_toInt64S.calls k A1 c1 _ _ _ (Kd.C_below HR1.out HB.out) HC1.out E2.out).mono ?_; rintro e wh ⟨vt, rfl, hS, hb⟩; obtain ⟨As, cs, rfl, hls, hCs⟩ := Kd.R_reads hS; have HCS := Aside0.mk hCs; have HLS := Aside0.mk hls; have n0_ := Aside0.mk (below_step HB.out hb); have n1_ := Aside0.mk (Kd.S_kept HW.out (Kept.of_below hb (fun _ => False)) (fun _ _ h_ => h_)); have n3_ := Aside0.mk (Kd.S_kept HG.out (Kept.of_below hb (fun _ => False)) (fun _ _ h_ => h_)); clear HB HW HG hS hb hls hCs; have HB := n0_; have HW := n1_; have HG := n3_; clear n0_ n1_ n3_; have T13 := Aside0.mk trivial)
                  | (go_at_call 7; clear T13; refine (impl_PutSets.calls k a0 a1 As cs _ c er _ HCS.out HLS.out E4.out).mono ?_; rintro e wi ⟨vh, rfl, hS, hb⟩; obtain ⟨Ah, ch, rfl, hlh, hCh⟩ := Kd.S_reads hS; have HCH := Aside0.mk hCh; have HLH := Aside0.mk hlh; have n0_ := Aside0.mk (below_step HB.out hb); have n1_ := Aside0.mk (Kd.S_kept HW.out (Kept.of_below hb (fun _ => False)) (fun _ _ h_ => h_)); have n3_ := Aside0.mk (Kd.S_kept HG.out (Kept.of_below hb (fun _ => False)) (fun _ _ h_ => h_)); clear HB HW HG hS hb hlh hCh HCS HLS; have HB := n0_; have HW := n1_; have HG := n3_; clear n0_ n1_ n3_; have T14 := Aside0.mk trivial)
                  | (go_at_call 8; clear T14; refine (laws_eqInt64SS.calls k Ah ch c Aw cw c true _ HCH.out HLH.out (Kd.S_reads' HW.out).2.2 (Kd.S_reads' HW.out).2.1 E5.out).mono ?_; rintro e w' ⟨rfl, ⟨n5, rfl⟩⟩; have n0_ := Aside0.mk (pw_below_drewN HB.out n5); have n3_ := Aside0.mk (Kd.S_drewN HG.out n5); clear HB HW HG; have HB := n0_; have HG := n3_; clear n0_ n3_; have T15 := Aside0.mk trivial)
                  | (go_at_call 12; clear T15; have hh := fun W C => laws_heldInt64SS.calls k Ag cg cm 1 q3 W C (by have := (Kd.S_reads' HG.out).1; have := (Kd.S_reads' HG.out).2.1; omega) E9.out; rw [← (Kd.S_reads' HG.out).1] at hh; refine (hh _ ((Kd.S_reads' HG.out).1 ▸ (Kd.S_reads' HG.out).2.2)).mono ?_; clear hh; rintro e w' ⟨rfl, ⟨n6, rfl⟩⟩; have n0_ := Aside0.mk (pw_below_drewN HB.out n6); clear HB HG; have HB := n0_; clear n0_))
                go_ret
                exact ⟨rfl, by first | exact HB.out | simpa using HB.out⟩
              · exact absurd h (by simp)
            · exact absurd h (by simp)
          · exact absurd h (by simp)
        · exact absurd h (by simp)
      · exact absurd h (by simp)
    · exact absurd h (by simp)
end Go.Proofs.Ytnmpjikiodnmnaa.P
end
section
namespace Go.Proofs.Ytnmpjikiodnmnaa.Pure
open Go.RowKit Go.Proofs.Ytnmpjikiodnmnaa.P Go.Proofs.YtnmpjikiodnmnaaW.PrintWords Go.Proofs.YtnmpjikiodnmnaaW.PrintLast Go.Proofs.YtnmpjikiodnmnaaW.PrintMore
set_option linter.unusedVariables false
set_option linter.unusedSimpArgs false
theorem l01In_f (n lo hi : Int) : spec_l01In.f n lo hi = some (decide (lo ≤ n ∧ n ≤ hi)) := by
  unfold spec_l01In.f
  by_cases h : n ≥ lo
  · rw [if_pos h]; simp [show lo ≤ n from h]
  · rw [if_neg h]; simp [show ¬ lo ≤ n from h]
theorem all_take_succ {α : Type} (p : α → Bool) (l : List α) (n : Nat) (h : n < l.length) : (l.take (n + 1)).all p = ((l.take n).all p && p l[n]) := by
  rw [List.take_succ_eq_append_getElem h, List.all_append]; simp
theorem all_false_at {α : Type} (p : α → Bool) (l : List α) (n : Nat) (h : n < l.length) (hp : p l[n] = false) : l.all p = false := by
  rw [Bool.eq_false_iff]
  intro ha
  rw [List.all_eq_true] at ha
  rw [ha _ (List.getElem_mem h)] at hp
  cases hp
end Go.Proofs.Ytnmpjikiodnmnaa.Pure
end
section
namespace Go.Proofs.Ytnmpjikiodnmnaa.Pure
open Go.RowKit Go.Proofs.Ytnmpjikiodnmnaa.P Go.Proofs.YtnmpjikiodnmnaaW.PrintWords Go.Proofs.YtnmpjikiodnmnaaW.PrintLast Go.Proofs.YtnmpjikiodnmnaaW.PrintMore
set_option linter.unusedVariables false
set_option linter.unusedSimpArgs false
theorem ev_pos {α : Type} {c : Prop} [Decidable c] {A B : Nat → Option α} {r : α} (h : c) (e : Ev A r) : Ev (fun n => if c then A n else B n) r := Ev.congr (fun n => if_pos h) e
theorem ev_neg {α : Type} {c : Prop} [Decidable c] {A B : Nat → Option α} {r : α} (h : ¬ c) (e : Ev B r) : Ev (fun n => if c then A n else B n) r := Ev.congr (fun n => if_neg h) e
theorem ev_now {α : Type} (r : α) : Ev (fun _ => some r) r := Ev.now r
theorem ev_is {α : Type} {g : Option α} {r : α} (h : g = some r) : Ev (fun _ => g) r := by subst h; exact Ev.now r
theorem ev_bind {α β : Type} {g : Nat → Option α} {f : Nat → α → Option β} {a : α} {r : β} (h : Ev g a) (k : Ev (fun n => f n a) r) : Ev (fun n => (g n).bind (f n)) r := Ev.bind h k
theorem ev_fix {α β : Type} {g : Option α} {f : Nat → α → Option β} {a : α} {r : β} (h : g = some a) (k : Ev (fun n => f n a) r) : Ev (fun n => g.bind (f n)) r := by subst h; exact k
theorem ev_rounds {α : Type} {g : Nat → Option α} {r : α} (h : Ev g r) : ∃ k, g k = some r := h.rounds
theorem wrap_id {x : Int} (h1 : -9223372036854775808 ≤ x) (h2 : x ≤ 9223372036854775807) : wrap64 x = x := by unfold wrap64; omega
theorem wrap_succ {n : Nat} (h : n + 1 ≤ 9223372036854775807) : wrap64 ((n : Int) + 1) = ((n + 1 : Nat) : Int) := by rw [wrap_id (by omega) (by omega)]; omega
theorem rd_nat {l : List Int} {n : Nat} (h : n < l.length) : rd l (n : Int) = l[n] := by simp [rd, h]
end Go.Proofs.Ytnmpjikiodnmnaa.Pure
end
section
namespace Go.Proofs.Ytnmpjikiodnmnaa.Pure
open Go.RowKit Go.Proofs.Ytnmpjikiodnmnaa.P Go.Proofs.YtnmpjikiodnmnaaW.PrintWords Go.Proofs.YtnmpjikiodnmnaaW.PrintLast Go.Proofs.YtnmpjikiodnmnaaW.PrintMore
set_option linter.unusedVariables false
set_option linter.unusedSimpArgs false
theorem toInt64S_l0 (l : List Int) (hl : l.length ≤ 9223372036854775807) : ∀ d n : Nat, n + d = l.length → Ev (fun k => laws_toInt64S.l0 k l (l.take n ++ List.replicate d 0) (n : Int)) l := by
  intro d
  induction d with
  | zero =>
    intro n hn
    refine Ev.step (fun k => by rw [laws_toInt64S.l0]) ?_
    refine ev_neg (by omega) ?_
    rw [List.take_of_length_le (by omega), List.replicate_zero, List.append_nil]
    exact ev_now l
  | succ d ih =>
    intro n hn
    have hlt : n < l.length := by omega
    refine Ev.step (fun k => by rw [laws_toInt64S.l0]) ?_
    refine ev_pos (by omega) (ev_pos (by omega) (ev_pos ?_ ?_))
    · rw [List.length_append, List.length_take, List.length_replicate]; omega
    · rw [wrap_succ (by omega), rd_nat hlt, Int.toNat_natCast]
      have e : (l.take n ++ List.replicate (d + 1) 0).set n l[n] = l.take (n + 1) ++ List.replicate d 0 := by
        rw [List.set_append_right _ _ (by rw [List.length_take]; omega), List.length_take, Nat.min_eq_left (by omega), Nat.sub_self, List.replicate_succ, List.set_cons_zero, List.take_succ_eq_append_getElem hlt, List.append_assoc]
        rfl
      rw [e]
      exact ih (n + 1) (by omega)
/-- toInt64S hands back the list. -/
theorem toInt64S_ev (l : List Int) (hl : l.length ≤ 35184372088832) : Ev (fun k => laws_toInt64S.f k l) l := by
  unfold laws_toInt64S.f
  refine ev_pos (by omega) (ev_pos (by omega) ?_)
  rw [Int.toNat_natCast]
  exact toInt64S_l0 l (by omega) l.length 0 (by omega)
theorem eqInt64S_l0 (l : List Int) (hl : l.length ≤ 9223372036854775807) : ∀ d n : Nat, n + d = l.length → Ev (fun k => laws_eqInt64S.l0 k l l (n : Int)) true := by
  intro d
  induction d with
  | zero =>
    intro n hn
    refine Ev.step (fun k => by rw [laws_eqInt64S.l0]) ?_
    exact ev_neg (by omega) (ev_now true)
  | succ d ih =>
    intro n hn
    refine Ev.step (fun k => by rw [laws_eqInt64S.l0]) ?_
    refine ev_pos (by omega) (ev_pos (by omega) (ev_pos (by omega) (ev_pos rfl ?_)))
    rw [wrap_succ (by omega)]
    exact ih (n + 1) (by omega)
/-- eqInt64S says that a list is itself. -/
theorem eqInt64S_ev (l : List Int) (hl : l.length ≤ 9223372036854775807) : Ev (fun k => laws_eqInt64S.f k l l) true := by
  unfold laws_eqInt64S.f
  exact ev_pos rfl (eqInt64S_l0 l hl l.length 0 (by omega))
end Go.Proofs.Ytnmpjikiodnmnaa.Pure
end
section
namespace Go.Proofs.Ytnmpjikiodnmnaa.Pure
open Go.RowKit Go.Proofs.Ytnmpjikiodnmnaa.P Go.Proofs.YtnmpjikiodnmnaaW.PrintWords Go.Proofs.YtnmpjikiodnmnaaW.PrintLast Go.Proofs.YtnmpjikiodnmnaaW.PrintMore
set_option linter.unusedVariables false
set_option linter.unusedSimpArgs false
/-- the numbers from m on -/
def upFrom (m : Int) : Nat → List Int
  | 0 => []
  | n + 1 => m :: upFrom (m + 1) n
theorem upFrom_length (n : Nat) : ∀ m, (upFrom m n).length = n := by
  induction n with
  | zero => intro m; rfl
  | succ n ih => intro m; simp [upFrom, ih]
theorem upFrom_get (n : Nat) : ∀ (m : Int) (j : Nat), j < n → (upFrom m n)[j]? = some (m + j) := by
  induction n with
  | zero => intro m j h; omega
  | succ n ih =>
    intro m j h
    cases j with
    | zero => simp [upFrom]
    | succ j => simp only [upFrom, List.getElem?_cons_succ]; rw [ih (m + 1) j (by omega)]; congr 1; omega
theorem upFrom_succ (n : Nat) (m : Int) : upFrom m (n + 1) = upFrom m n ++ [m + n] := by
  apply List.ext_getElem?
  intro j
  rcases Nat.lt_or_ge j n with h | h
  · rw [upFrom_get _ _ _ (by omega), List.getElem?_append_left (by rw [upFrom_length]; exact h), upFrom_get _ _ _ h]
  · rw [List.getElem?_append_right (by rw [upFrom_length]; exact h), upFrom_length]
    rcases Nat.eq_or_lt_of_le h with rfl | h
    · rw [upFrom_get _ _ _ (by omega)]; simp
    · rw [List.getElem?_eq_none (by rw [upFrom_length]; omega), List.getElem?_eq_none (by simp; omega)]
theorem markInt64S_l0 (l : List Int) (m : Int) (h0 : 0 ≤ m) (hl : m + l.length ≤ 9223372036854775807) : ∀ d n : Nat, n + d = l.length → Ev (fun k => laws_markInt64S.l0 k (upFrom m n ++ l.drop n) (m + n) (n : Int)) (m + l.length, upFrom m l.length) := by
  intro d
  induction d with
  | zero =>
    intro n hn
    refine Ev.step (fun k => by rw [laws_markInt64S.l0]) ?_
    refine ev_neg (by rw [List.length_append, upFrom_length, List.length_drop]; omega) ?_
    rw [List.drop_of_length_le (by omega), List.append_nil, show n = l.length by omega]
    exact ev_now _
  | succ d ih =>
    intro n hn
    have hlt : n < l.length := by omega
    refine Ev.step (fun k => by rw [laws_markInt64S.l0]) ?_
    refine ev_pos (by rw [List.length_append, upFrom_length, List.length_drop]; omega) (ev_pos (by omega) ?_)
    rw [wrap_succ (by omega), wrap_id (x := m + n + 1) (by omega) (by omega), Int.toNat_natCast]
    have e : (upFrom m n ++ l.drop n).set n (m + n) = upFrom m (n + 1) ++ l.drop (n + 1) := by
      rw [List.set_append_right _ _ (by rw [upFrom_length]; omega), upFrom_length, Nat.sub_self, List.drop_eq_getElem_cons hlt, List.set_cons_zero, upFrom_succ, List.append_assoc]
      rfl
    rw [e, show m + (n : Int) + 1 = m + ((n + 1 : Nat) : Int) by omega]
    exact ih (n + 1) (by omega)
theorem markInt64S_ev (l : List Int) (m : Int) (h0 : 0 ≤ m) (hl : m + l.length ≤ 9223372036854775807) : Ev (fun k => laws_markInt64S.f k l m) (m + l.length, upFrom m l.length) := by
  unfold laws_markInt64S.f
  have h := markInt64S_l0 l m h0 hl l.length 0 (by omega)
  simpa [upFrom] using h
theorem heldInt64S_l0 (m : Int) (h0 : 0 ≤ m) (N : Nat) (hl : m + N ≤ 9223372036854775807) : ∀ d n : Nat, n + d = N → Ev (fun k => laws_heldInt64S.l0 k (upFrom m N) (m + n) (n : Int)) (m + N) := by
  intro d
  induction d with
  | zero =>
    intro n hn
    refine Ev.step (fun k => by rw [laws_heldInt64S.l0]) ?_
    refine ev_neg (by rw [upFrom_length]; omega) ?_
    rw [show n = N by omega]
    exact ev_now _
  | succ d ih =>
    intro n hn
    refine Ev.step (fun k => by rw [laws_heldInt64S.l0]) ?_
    refine ev_pos (by rw [upFrom_length]; omega) (ev_pos (by omega) (ev_pos ?_ ?_))
    · have h := upFrom_get N m n (by omega)
      simp [rd, h]
    · rw [wrap_succ (by omega), wrap_id (x := m + n + 1) (by omega) (by omega), show m + (n : Int) + 1 = m + ((n + 1 : Nat) : Int) by omega]
      exact ih (n + 1) (by omega)
theorem heldInt64S_ev (m : Int) (h0 : 0 ≤ m) (N : Nat) (hl : m + N ≤ 9223372036854775807) : Ev (fun k => laws_heldInt64S.f k (upFrom m N) m) (m + N) := by
  unfold laws_heldInt64S.f
  have h := heldInt64S_l0 m h0 N hl N 0 (by omega)
  simpa using h
end Go.Proofs.Ytnmpjikiodnmnaa.Pure
end
section
namespace Go.Proofs.Ytnmpjikiodnmnaa.Pure
open Go.RowKit Go.Proofs.Ytnmpjikiodnmnaa.P Go.Proofs.YtnmpjikiodnmnaaW.PrintWords Go.Proofs.YtnmpjikiodnmnaaW.PrintLast Go.Proofs.YtnmpjikiodnmnaaW.PrintMore
set_option linter.unusedVariables false
set_option linter.unusedSimpArgs false
theorem rdL_nat {l : List (List Int)} {n : Nat} (h : n < l.length) : rd_L1 l (n : Int) = l[n] := by simp [rd_L1, h]
theorem eqInt64SS_l0 (l : List (List Int)) (hl : l.length ≤ 1048576) (hx : ∀ x ∈ l, x.length ≤ 1048576) : ∀ d n : Nat, n + d = l.length → Ev (fun k => laws_eqInt64SS.l0 k l l (n : Int)) true := by
  intro d
  induction d with
  | zero =>
    intro n hn
    refine Ev.step (fun k => by rw [laws_eqInt64SS.l0]) ?_
    exact ev_neg (by omega) (ev_now true)
  | succ d ih =>
    intro n hn
    have hlt : n < l.length := by omega
    refine Ev.step (fun k => by rw [laws_eqInt64SS.l0]) ?_
    rw [rdL_nat hlt, wrap_succ (by omega)]
    exact ev_pos (by omega) (ev_pos (by omega) (ev_pos (by omega) (ev_bind (eqInt64S_ev l[n] (by have := hx _ (List.getElem_mem hlt); omega)) (ev_pos rfl (ih (n + 1) (by omega))))))
theorem eqInt64SS_ev (l : List (List Int)) (hl : l.length ≤ 1048576) (hx : ∀ x ∈ l, x.length ≤ 1048576) : Ev (fun k => laws_eqInt64SS.f k l l) true := by
  unfold laws_eqInt64SS.f
  exact ev_pos rfl (eqInt64SS_l0 l hl hx l.length 0 (by omega))
end Go.Proofs.Ytnmpjikiodnmnaa.Pure
end
section
namespace Go.Proofs.Ytnmpjikiodnmnaa.Pure
open Go.RowKit Go.Proofs.Ytnmpjikiodnmnaa.P Go.Proofs.YtnmpjikiodnmnaaW.PrintWords Go.Proofs.YtnmpjikiodnmnaaW.PrintLast Go.Proofs.YtnmpjikiodnmnaaW.PrintMore
set_option linter.unusedVariables false
set_option linter.unusedSimpArgs false
def marks : Int → List (List Int) → List (List Int)
  | _, [] => []
  | a, x :: l => upFrom a x.length :: marks (a + x.length) l
def markTot : Int → List (List Int) → Int
  | a, [] => a
  | a, x :: l => markTot (a + x.length) l
theorem markTot_le : ∀ (l : List (List Int)) (a : Int), a ≤ markTot a l := by
  intro l
  induction l with
  | nil => intro a; exact Int.le_refl _
  | cons x l ih => intro a; have := ih (a + x.length); rw [markTot]; omega
theorem rdL_mid (pre l : List (List Int)) (x : List Int) : rd_L1 (pre ++ x :: l) (pre.length : Int) = x := by
  rw [rdL_nat (by simp)]
  simp
theorem set_mid (pre l : List (List Int)) (x y : List Int) : (pre ++ x :: l).set pre.length y = pre ++ y :: l := by
  rw [List.set_append_right _ _ (Nat.le_refl _), Nat.sub_self, List.set_cons_zero]
theorem markInt64SS_l0 : ∀ (l pre : List (List Int)) (a : Int), 0 ≤ a → a + 1048576 * (l.length : Int) ≤ 4000000000000 → pre.length + l.length ≤ 1048576 → (∀ x ∈ l, x.length ≤ 1048576) →
    Ev (fun k => laws_markInt64SS.l0 k (pre ++ l) a (pre.length : Int)) (markTot a l, pre ++ marks a l) := by
  intro l
  induction l with
  | nil =>
    intro pre a _ _ _ _
    refine Ev.step (fun k => by rw [laws_markInt64SS.l0]) ?_
    rw [List.append_nil]
    exact ev_neg (by omega) (ev_is (by simp [marks, markTot]))
  | cons x l ih =>
    intro pre a h0 h1 h2 h3
    have hx := h3 x List.mem_cons_self
    rw [List.length_cons] at h1 h2
    refine Ev.step (fun k => by rw [laws_markInt64SS.l0]) ?_
    rw [rdL_mid, Int.toNat_natCast, wrap_succ (by omega)]
    refine ev_pos (by rw [List.length_append, List.length_cons]; omega) (ev_pos (by omega) (ev_bind (markInt64S_ev x a h0 (by omega)) ?_))
    have h := ih (pre ++ [upFrom a x.length]) (a + x.length) (by omega) (by omega) (by rw [List.length_append, List.length_singleton]; omega) (fun y hy => h3 y (List.mem_cons_of_mem _ hy))
    rw [List.append_assoc, List.append_assoc, List.length_append, List.length_singleton] at h
    show Ev (fun k => laws_markInt64SS.l0 k ((pre ++ x :: l).set pre.length (upFrom a x.length)) (a + x.length) ((pre.length + 1 : Nat) : Int)) _
    rw [set_mid]
    exact h
theorem heldInt64SS_l0 : ∀ (l pre : List (List Int)) (a : Int), 0 ≤ a → a + 1048576 * (l.length : Int) ≤ 4000000000000 → pre.length + l.length ≤ 1048576 → (∀ x ∈ l, x.length ≤ 1048576) →
    Ev (fun k => laws_heldInt64SS.l0 k (pre ++ marks a l) a (pre.length : Int)) (markTot a l) := by
  intro l
  induction l with
  | nil =>
    intro pre a _ _ _ _
    refine Ev.step (fun k => by rw [laws_heldInt64SS.l0]) ?_
    rw [marks, List.append_nil]
    exact ev_neg (by omega) (ev_now _)
  | cons x l ih =>
    intro pre a h0 h1 h2 h3
    have hx := h3 x List.mem_cons_self
    rw [List.length_cons] at h1 h2
    refine Ev.step (fun k => by rw [laws_heldInt64SS.l0]) ?_
    rw [marks, rdL_mid, wrap_succ (by omega)]
    refine ev_pos (by rw [List.length_append, List.length_cons]; omega) (ev_pos (by omega) (ev_bind (heldInt64S_ev a h0 x.length (by omega)) (ev_neg (by omega) ?_)))
    have h := ih (pre ++ [upFrom a x.length]) (a + x.length) (by omega) (by omega) (by rw [List.length_append, List.length_singleton]; omega) (fun y hy => h3 y (List.mem_cons_of_mem _ hy))
    rw [List.append_assoc, List.length_append, List.length_singleton] at h
    exact h
theorem marked_ev (l : List (List Int)) (h1 : l.length ≤ 1048576) (h2 : ∀ x ∈ l, x.length ≤ 1048576) : ∃ (m : Int) (x : List (List Int)),
    Ev (fun k => laws_markInt64SS.f k l 1) (m, x) ∧ 0 ≤ m ∧ Ev (fun k => laws_heldInt64SS.f k x 1) m := by
  refine ⟨markTot 1 l, marks 1 l, ?_, ?_, ?_⟩
  · unfold laws_markInt64SS.f
    exact markInt64SS_l0 l [] 1 (by omega) (by omega) (by simpa using h1) h2
  · have := markTot_le l 1
    omega
  · unfold laws_heldInt64SS.f
    exact heldInt64SS_l0 l [] 1 (by omega) (by omega) (by simpa using h1) h2
end Go.Proofs.Ytnmpjikiodnmnaa.Pure
end
section
namespace Go.Proofs.Ytnmpjikiodnmnaa.Pure
open Go.RowKit Go.Proofs.Ytnmpjikiodnmnaa.P Go.Proofs.YtnmpjikiodnmnaaW.PrintWords Go.Proofs.YtnmpjikiodnmnaaW.PrintLast Go.Proofs.YtnmpjikiodnmnaaW.PrintMore
set_option linter.unusedVariables false
set_option linter.unusedSimpArgs false
theorem Index_l0 (l : List Int) (x : Int) (hl : l.length ≤ 9223372036854775807) : ∀ d n : Nat, n + d = l.length → (∀ y ∈ l.take n, y ≠ x) → Ev (fun k => slices_Index_Sint64_int64.l0 k l x (l.length : Int) (n : Int)) (if x ∈ l then (l.idxOf x : Int) else -1) := by
  intro d
  induction d with
  | zero =>
    intro n hn hno
    refine Ev.step (fun k => by rw [slices_Index_Sint64_int64.l0]) (ev_neg (by omega) (ev_is ?_))
    rw [List.take_of_length_le (by omega)] at hno
    rw [if_neg (fun h => hno x h rfl)]
  | succ d ih =>
    intro n hn hno
    have hlt : n < l.length := by omega
    refine Ev.step (fun k => by rw [slices_Index_Sint64_int64.l0]) (ev_pos (by omega) (ev_pos (by omega) (ev_pos (by omega) ?_)))
    rw [rd_nat hlt]
    by_cases h : x = l[n]
    · refine ev_pos h (ev_is ?_)
      rw [if_pos (h ▸ List.getElem_mem hlt)]
      congr 2
      symm
      rw [List.idxOf, List.findIdx_eq hlt]
      refine ⟨by simp [h], fun j hj => ?_⟩
      have := hno l[j] (List.mem_take_iff_getElem.2 ⟨j, by omega, rfl⟩)
      simpa using this
    · refine ev_neg h ?_
      rw [wrap_succ (by omega)]
      refine ih (n + 1) (by omega) ?_
      rw [List.take_succ_eq_append_getElem hlt]
      intro y hy
      rcases List.mem_append.1 hy with hy | hy
      · exact hno y hy
      · rw [List.mem_singleton.1 hy]; exact fun e => h e.symm
theorem Index_ev (l : List Int) (x : Int) (hl : l.length ≤ 9223372036854775807) : Ev (fun k => slices_Index_Sint64_int64.f k l x) (if x ∈ l then (l.idxOf x : Int) else -1) := by
  unfold slices_Index_Sint64_int64.f
  exact Index_l0 l x hl l.length 0 (by omega) (by simp)
theorem Contains_ev (l : List Int) (x : Int) (hl : l.length ≤ 9223372036854775807) : Ev (fun k => slices_Contains_Sint64_int64.f k l x) (l.contains x) := by
  unfold slices_Contains_Sint64_int64.f
  refine ev_bind (Index_ev l x hl) (ev_is ?_)
  by_cases h : x ∈ l
  · rw [if_pos h, List.contains_eq_mem, decide_eq_true h]; simp
  · rw [if_neg h, List.contains_eq_mem, decide_eq_false h]; simp
end Go.Proofs.Ytnmpjikiodnmnaa.Pure
end
section
namespace Go.Proofs.Ytnmpjikiodnmnaa.Pure
open Go.RowKit Go.Proofs.Ytnmpjikiodnmnaa.P Go.Proofs.YtnmpjikiodnmnaaW.PrintWords Go.Proofs.YtnmpjikiodnmnaaW.PrintLast Go.Proofs.YtnmpjikiodnmnaaW.PrintMore
set_option linter.unusedVariables false
set_option linter.unusedSimpArgs false
theorem rd_set {l : List Int} {b i : Nat} {x : Int} (hb : b < l.length) : rd (l.set b x) (i : Nat) = if i = b then x else rd l (i : Nat) := by
  simp only [rd, Int.toNat_natCast, List.getD_eq_getElem?_getD, List.getElem?_set]
  by_cases h : b = i
  · subst h; simp [hb]
  · rw [if_neg h, if_neg (fun e => h e.symm)]
end Go.Proofs.Ytnmpjikiodnmnaa.Pure
end
section
namespace Go.Proofs.Ytnmpjikiodnmnaa.Pure
open Go.RowKit Go.Proofs.Ytnmpjikiodnmnaa.P Go.Proofs.YtnmpjikiodnmnaaW.PrintWords Go.Proofs.YtnmpjikiodnmnaaW.PrintLast Go.Proofs.YtnmpjikiodnmnaaW.PrintMore
set_option linter.unusedVariables false
set_option linter.unusedSimpArgs false
def Both {α : Type} (P : α → Prop) (A B : Nat → Option α) : Prop := ∃ r, Ev A r ∧ Ev B r ∧ P r
theorem Both.map {α : Type} {P : α → Prop} {A B A' B' : Nat → Option α} (h1 : ∀ r, Ev A' r → Ev A r) (h2 : ∀ r, Ev B' r → Ev B r) (h : Both P A' B') : Both P A B := by
  obtain ⟨r, a, b, p⟩ := h
  exact ⟨r, h1 r a, h2 r b, p⟩
def bitP (s : Int) (i : Nat) : Prop := Go.bits .and .i64 (shr .i64 s (i : Int)) 1 = 0
instance (s : Int) (i : Nat) : Decidable (bitP s i) := inferInstanceAs (Decidable (_ = _))
def bitsOf (s : Int) : List Nat := (List.range 8).filter fun i => !(decide (bitP s i))
theorem bitsOf_length : ∀ s : Fin 256, ((bitsOf (s.val : Int)).length : Int) = membersV (s.val : Int) := by decide +kernel
theorem nodup_le : ∀ (l l' : List Int), l.Nodup → (∀ x ∈ l, x ∈ l') → l.length ≤ l'.length := by
  intro l
  induction l with
  | nil => intro l' _ _; exact Nat.zero_le _
  | cons x l ih =>
    intro l' hn hs
    obtain ⟨h1, h2⟩ := List.nodup_cons.1 hn
    have hx := hs x List.mem_cons_self
    have := ih (l'.erase x) h2 (fun y hy => (List.mem_erase_of_ne (by rintro rfl; exact h1 hy)).2 (hs y (List.mem_cons_of_mem _ hy)))
    rw [List.length_erase_of_mem hx] at this
    have : 0 < l'.length := List.length_pos_of_mem hx
    rw [List.length_cons]
    omega
theorem u64_small {i : Nat} (h : i ≤ 255) : IntKind.u64.wrap (i : Int) = (i : Int) := by
  have h : ∀ j : Fin 256, IntKind.u64.wrap (j.val : Int) = (j.val : Int) := by decide +kernel
  exact h ⟨i, by omega⟩
/-- what holds of the slot's row and the tasks' channels -/
structure PInv (k m : Nat) (s : Int) (slot last0 last : List Int) : Prop where
  ls : slot.length = m
  l0 : last0.length = k
  l1 : last.length = k
  a : ∀ c : Nat, c < m → rd slot c = -1 ∨ ∃ j : Nat, j < k ∧ rd slot c = (j : Int) ∧ ¬ bitP s j ∧ rd last j = (c : Int)
  b : ∀ j : Nat, j < k → rd last j = rd last0 j ∨ ∃ c : Nat, c < m ∧ rd last j = (c : Int) ∧ rd slot c = (j : Int)
  c : ∀ j : Nat, j < k → rd last j = -1 ∨ ∃ c : Nat, c < m ∧ rd last j = (c : Int)
theorem mem_rd {l : List Int} {x : Int} : x ∈ l ↔ ∃ c : Nat, c < l.length ∧ rd l c = x := by
  rw [List.mem_iff_getElem]
  constructor
  · rintro ⟨c, hc, h⟩; exact ⟨c, hc, by rw [rd_nat hc]; exact h⟩
  · rintro ⟨c, hc, h⟩; exact ⟨c, hc, by rw [rd_nat hc] at h; exact h⟩
theorem PInv.mem {k m : Nat} {s : Int} {slot last0 last : List Int} (h : PInv k m s slot last0 last) {i : Nat} : (i : Int) ∈ slot ↔ ∃ c : Nat, c < m ∧ rd last i = (c : Int) ∧ rd slot c = (i : Int) := by
  rw [mem_rd, h.ls]
  constructor
  · rintro ⟨c, hc, e⟩
    rcases h.a c hc with e1 | ⟨j, hj, e1, _, e2⟩
    · omega
    · obtain rfl : j = i := by omega
      exact ⟨c, hc, e2, e⟩
  · rintro ⟨c, hc, _, e⟩; exact ⟨c, hc, e⟩
theorem PInv.put {k m : Nat} {s : Int} {slot last0 last : List Int} (h : PInv k m s slot last0 last) {i c : Nat} (hi : i < k) (hb : ¬ bitP s i) (hc : c < m) (he : rd slot c = -1) (hn : ¬ (i : Int) ∈ slot) : PInv k m s (slot.set c (i : Int)) last0 (last.set i (c : Int)) := by
  have r1 : ∀ d : Nat, rd (slot.set c (i : Int)) d = if d = c then (i : Int) else rd slot d := fun d => rd_set (by rw [h.ls]; exact hc)
  have r2 : ∀ d : Nat, rd (last.set i (c : Int)) d = if d = i then (c : Int) else rd last d := fun d => rd_set (by rw [h.l1]; exact hi)
  refine ⟨by rw [List.length_set, h.ls], h.l0, by rw [List.length_set, h.l1], fun d hd => ?_, fun j hj => ?_, fun j hj => ?_⟩
  · rw [r1]
    by_cases e : d = c
    · rw [if_pos e]; exact .inr ⟨i, hi, rfl, hb, by rw [r2, if_pos rfl, e]⟩
    · rw [if_neg e]
      rcases h.a d hd with e1 | ⟨j, hj, e1, e2, e3⟩
      · exact .inl e1
      · refine .inr ⟨j, hj, e1, e2, ?_⟩
        rw [r2, if_neg ?_]
        · exact e3
        · rintro rfl; exact hn (h.mem.2 ⟨d, hd, e3, e1⟩)
  · rw [r2]
    by_cases e : j = i
    · subst e; rw [if_pos rfl]; exact .inr ⟨c, hc, rfl, by rw [r1, if_pos rfl]⟩
    · rw [if_neg e]
      rcases h.b j hj with e1 | ⟨d, hd, e1, e2⟩
      · exact .inl e1
      · refine .inr ⟨d, hd, e1, ?_⟩
        rw [r1, if_neg ?_]
        · exact e2
        · rintro rfl; omega
  · rw [r2]
    by_cases e : j = i
    · rw [if_pos e]; exact .inr ⟨c, hc, rfl⟩
    · rw [if_neg e]; exact h.c j hj
theorem PInv.put0 {k m : Nat} {s : Int} {slot last0 : List Int} (h : PInv k m s slot last0 last0) {i c : Nat} (hi : i < k) (hb : ¬ bitP s i) (hc : c < m) (he : rd slot c = -1) (hn : ¬ (i : Int) ∈ slot) (hl : rd last0 i = (c : Int)) : PInv k m s (slot.set c (i : Int)) last0 last0 := by
  have e : last0.set i (c : Int) = last0 := by
    apply List.ext_getElem (by rw [List.length_set])
    intro j h1 h2
    rw [List.getElem_set]
    by_cases e : i = j
    · subst e; rw [if_pos rfl, ← rd_nat h2, hl]
    · rw [if_neg e]
  have := h.put hi hb hc he hn
  rw [e] at this
  exact this
/-- there is a free channel for a task that has none -/
theorem PInv.free {k m : Nat} {s : Int} {slot last0 last : List Int} (h : PInv k m s slot last0 last) (hk : k ≤ 8) (hs : 0 ≤ s ∧ s ≤ 255) (hm : membersV s ≤ m) {i : Nat} (hi : i < k) (hb : ¬ bitP s i) (hn : ¬ (i : Int) ∈ slot) : (-1 : Int) ∈ slot := by
  apply Classical.byContradiction
  intro hf
  have hT := bitsOf_length ⟨s.toNat, by omega⟩
  have es : ((s.toNat : Nat) : Int) = s := by omega
  simp only [es] at hT
  have key : ∀ c : Nat, c < m → ∃ j : Nat, j < k ∧ rd slot c = (j : Int) ∧ ¬ bitP s j ∧ rd last j = (c : Int) := by
    intro c hc
    rcases h.a c hc with e | e
    · exact absurd (mem_rd.2 ⟨c, by rw [h.ls]; exact hc, e⟩) hf
    · exact e
  have hnd : slot.Nodup := by
    rw [List.Nodup, List.pairwise_iff_getElem]
    intro a b ha hb hab e
    rw [← rd_nat ha, ← rd_nat hb] at e
    obtain ⟨j, _, e1, _, e2⟩ := key a (by rw [← h.ls]; exact ha)
    obtain ⟨j', _, e3, _, e4⟩ := key b (by rw [← h.ls]; exact hb)
    obtain rfl : j = j' := by omega
    omega
  have hmemT : ∀ j : Nat, j < k → ¬ bitP s j → (j : Int) ∈ (bitsOf s).map fun (n : Nat) => (n : Int) := by
    intro j hj hbj
    refine List.mem_map.2 ⟨j, ?_, rfl⟩
    unfold bitsOf
    rw [List.mem_filter]
    exact ⟨List.mem_range.2 (by omega), by simp [hbj]⟩
  have hle := nodup_le ((i : Int) :: slot) ((bitsOf s).map fun (n : Nat) => (n : Int)) (List.nodup_cons.2 ⟨hn, hnd⟩) (by
    intro x hx
    rcases List.mem_cons.1 hx with rfl | hx
    · exact hmemT i hi hb
    · obtain ⟨c, hc, e⟩ := mem_rd.1 hx
      obtain ⟨j, hj, e1, e2, _⟩ := key c (by rw [← h.ls]; exact hc)
      rw [← e, e1]
      exact hmemT j hj e2)
  rw [List.length_cons, List.length_map, h.ls] at hle
  omega
/-- the reference's search for a free channel -/
theorem PutSets_l7 {k m : Int} {S : List Int} {out : List (List Int)} {last slot : List Int} {n x16 i : Int} {r : List (List Int) × Int} {c : Nat} (hc : c < slot.length) (hl : slot.length ≤ 8) (he : rd slot c = -1) (hlo : ∀ d : Nat, d < c → 0 ≤ rd slot d) (hi : 0 ≤ i ∧ i < (last.length : Int))
    (h : Ev (fun q => spec_PutSets.l6 q k m S out (last.set i.toNat (c : Int)) n (slot.set c i) x16 (wrap64 (i + 1))) r) :
    ∀ d e : Nat, e + d = c → Ev (fun q => spec_PutSets.l7 q k m S out last n slot x16 i (e : Int)) r := by
  intro d
  induction d with
  | zero =>
    intro e hec
    obtain rfl : e = c := by omega
    refine Ev.step (fun q => by rw [spec_PutSets.l7]) ?_
    refine ev_pos (by omega) (ev_pos (by omega) (ev_neg (by omega) (ev_pos hi.1 (ev_pos hi.2 ?_))))
    rw [Int.toNat_natCast]
    exact h
  | succ d ih =>
    intro e hec
    have := hlo e (by omega)
    refine Ev.step (fun q => by rw [spec_PutSets.l7]) ?_
    refine ev_pos (by omega) (ev_pos (by omega) (ev_pos (by omega) ?_))
    rw [wrap_succ (n := e) (by omega)]
    exact ih (e + 1) (by omega)
theorem w01 : wrap64 (0 + 1) = 1 := by decide +kernel
theorem w12 : wrap64 (1 + 1) = 2 := by decide +kernel
/-- the first pass: the tasks that keep their channels -/
theorem PutSets_pass0 {P : List (List Int) × Int → Prop} {k m : Nat} (hk : k ≤ 8) (hm : m ≤ 8) {S : List Int} {out : List (List Int)} {L : List Int} {n : Nat} {s : Int} (hn : n < S.length) (hs : rd S n = s) {y : List Bool} {len yl : Int} :
    ∀ d i : Nat, i + d = k → ∀ slot, PInv k m s slot L L →
    (∀ slot', PInv k m s slot' L L → Both P (fun q => spec_PutSets.l5 q k m S out L n slot' 1) (fun q => impl_PutSets.l1 q out L s slot' S len n y yl 1 k m)) →
    Both P (fun q => spec_PutSets.l6 q k m S out L n slot 0 (i : Int)) (fun q => impl_PutSets.l2 q out L s slot true S len n y yl 0 k (i : Int) k m) := by
  intro d
  induction d with
  | zero =>
    intro i hi slot h K
    refine Both.map (fun r e => ?_) (fun r e => ?_) (K slot h)
    · refine Ev.step (fun q => by rw [spec_PutSets.l6]) ?_
      refine ev_neg (by omega) ?_
      rw [w01]; exact e
    · refine Ev.step (fun q => by rw [impl_PutSets.l2]) ?_
      refine ev_neg (by omega) ?_
      rw [w01]; exact e
  | succ d ih =>
    intro i hi slot h K
    have hw : wrap64 ((i : Int) + 1) = ((i + 1 : Nat) : Int) := wrap_succ (n := i) (by omega)
    have hu := u64_small (i := i) (by omega)
    have hL := h.l0
    have hS := h.ls
    have hcont := Contains_ev slot (i : Int) (by omega)
    -- what both do where the slot stays as it is
    have skipS : ¬ bitP s i → ∀ r, Ev (fun q => spec_PutSets.l6 q k m S out L n slot 0 ((i + 1 : Nat) : Int)) r → Ev (fun q => spec_PutSets.j8 q k m S out L n slot 0 (i : Int) false) r := by
      intro _ r e
      refine Ev.step (fun q => by rw [spec_PutSets.j8]) ?_
      refine ev_neg (by simp) ?_
      refine Ev.step (fun q => by rw [spec_PutSets.j9]) ?_
      refine ev_neg (by omega) ?_
      refine Ev.step (fun q => by rw [spec_PutSets.j10]) ?_
      refine ev_neg (by simp) ?_
      rw [hw]; exact e
    by_cases hb : bitP s i
    · refine Both.map (fun r e => ?_) (fun r e => ?_) (ih (i + 1) (by omega) slot h K)
      · refine Ev.step (fun q => by rw [spec_PutSets.l6]) ?_
        refine ev_pos (by omega) (ev_pos (by omega) (ev_pos (by omega) ?_))
        rw [hu, hs]
        refine ev_pos (by omega) (ev_pos hb ?_)
        rw [hw]; exact e
      · refine Ev.step (fun q => by rw [impl_PutSets.l2]) ?_
        refine ev_pos (by omega) (ev_pos (by omega) (ev_pos hb ?_))
        refine Ev.step (fun q => by rw [impl_PutSets.j4]) ?_
        refine ev_pos rfl ?_
        rw [hw]; exact e
    · have toS : ∀ r, Ev (fun q => if rd L (i : Int) ≥ 0 then (if 0 ≤ rd L (i : Int) then (if rd L (i : Int) < (slot.length : Int) then spec_PutSets.j8 q k m S out L n slot 0 (i : Int) (decide (rd slot (rd L (i : Int)) < 0)) else none) else none) else spec_PutSets.j8 q k m S out L n slot 0 (i : Int) false) r → Ev (fun q => spec_PutSets.l6 q k m S out L n slot 0 (i : Int)) r := by
        intro r e
        refine Ev.step (fun q => by rw [spec_PutSets.l6]) ?_
        refine ev_pos (by omega) (ev_pos (by omega) (ev_pos (by omega) ?_))
        rw [hu, hs]
        exact ev_pos (by omega) (ev_neg hb (ev_pos rfl (ev_pos (by omega) (ev_pos (by omega) e))))
      have toI : ∀ r, Ev (fun q => impl_PutSets.j4 q out L s slot true (i : Int) S len n y yl 0 k (i : Int) (slot.contains (i : Int)) k m) r → Ev (fun q => impl_PutSets.l2 q out L s slot true S len n y yl 0 k (i : Int) k m) r := by
        intro r e
        refine Ev.step (fun q => by rw [impl_PutSets.l2]) ?_
        exact ev_pos (by omega) (ev_pos (by omega) (ev_neg hb (ev_bind hcont e)))
      by_cases hin : (i : Int) ∈ slot
      · have hc1 : slot.contains (i : Int) = true := by simpa using hin
        obtain ⟨c, hc, e1, e2⟩ := h.mem.1 hin
        refine Both.map (fun r e => toS r ?_) (fun r e => toI r ?_) (ih (i + 1) (by omega) slot h K)
        · rw [e1]
          refine ev_pos (by omega) (ev_pos (by omega) (ev_pos (by omega) ?_))
          rw [show decide (rd slot (c : Int) < 0) = false from decide_eq_false (by omega)]
          exact skipS hb r e
        · rw [hc1]
          refine Ev.step (fun q => by rw [impl_PutSets.j4]) ?_
          refine ev_pos rfl ?_
          rw [hw]; exact e
      · have hc1 : slot.contains (i : Int) = false := by simpa using hin
        rcases h.c i (by omega) with e1 | ⟨c, hc, e1⟩
        · refine Both.map (fun r e => toS r ?_) (fun r e => toI r ?_) (ih (i + 1) (by omega) slot h K)
          · exact ev_neg (by omega) (skipS hb r e)
          · rw [hc1]
            refine Ev.step (fun q => by rw [impl_PutSets.j4]) ?_
            refine ev_neg (by simp) (ev_pos (by omega) (ev_pos (by omega) (ev_pos rfl (ev_pos e1 ?_))))
            rw [hw]; exact e
        · rcases h.a c hc with e2 | ⟨j, hj, e2, _, _⟩
          · refine Both.map (fun r e => toS r ?_) (fun r e => toI r ?_) (ih (i + 1) (by omega) (slot.set c (i : Int)) (h.put0 (by omega) hb hc e2 hin e1) K)
            · rw [e1]
              refine ev_pos (by omega) (ev_pos (by omega) (ev_pos (by omega) ?_))
              rw [show decide (rd slot (c : Int) < 0) = true from decide_eq_true (by omega)]
              refine Ev.step (fun q => by rw [spec_PutSets.j8]) ?_
              refine ev_pos rfl ?_
              rw [e1, Int.toNat_natCast]
              refine ev_pos (by omega) (ev_pos (by omega) (ev_pos (by omega) (ev_pos (by omega) ?_)))
              refine Ev.step (fun q => by rw [spec_PutSets.j9]) ?_
              refine ev_neg (by omega) ?_
              refine Ev.step (fun q => by rw [spec_PutSets.j10]) ?_
              refine ev_neg (by simp) ?_
              rw [hw]; exact e
            · rw [hc1]
              refine Ev.step (fun q => by rw [impl_PutSets.j4]) ?_
              refine ev_neg (by simp) (ev_pos (by omega) (ev_pos (by omega) (ev_pos rfl ?_)))
              rw [e1, Int.toNat_natCast]
              refine ev_neg (by omega) (ev_pos (by omega) (ev_pos (by omega) (ev_pos e2 ?_)))
              rw [hw]; exact e
          · refine Both.map (fun r e => toS r ?_) (fun r e => toI r ?_) (ih (i + 1) (by omega) slot h K)
            · rw [e1]
              refine ev_pos (by omega) (ev_pos (by omega) (ev_pos (by omega) ?_))
              rw [show decide (rd slot (c : Int) < 0) = false from decide_eq_false (by omega)]
              exact skipS hb r e
            · rw [hc1]
              refine Ev.step (fun q => by rw [impl_PutSets.j4]) ?_
              refine ev_neg (by simp) (ev_pos (by omega) (ev_pos (by omega) (ev_pos rfl ?_)))
              rw [e1]
              refine ev_neg (by omega) (ev_pos (by omega) (ev_pos (by omega) (ev_neg (by omega) ?_)))
              rw [hw]; exact e
/-- the first place of a value in a row -/
theorem first_of {l : List Int} {x : Int} (h : x ∈ l) : l.idxOf x < l.length ∧ rd l (l.idxOf x : Nat) = x ∧ ∀ d : Nat, d < l.idxOf x → rd l d ≠ x := by
  have h1 : l.idxOf x < l.length := List.idxOf_lt_length_of_mem h
  refine ⟨h1, by rw [rd_nat h1]; exact List.getElem_idxOf h1, fun d hd e => ?_⟩
  rw [rd_nat (by omega)] at e
  have := List.not_of_lt_findIdx (p := (· == x)) (xs := l) hd
  simp [e] at this
/-- the second pass: the other tasks -/
theorem PutSets_pass1 {P : List (List Int) × Int → Prop} {k m : Nat} (hk : k ≤ 8) (hm : m ≤ 8) {S : List Int} {out : List (List Int)} {L : List Int} {n : Nat} {s : Int} (hn : n < S.length) (hs : rd S n = s) (h255 : 0 ≤ s ∧ s ≤ 255) (hmem : membersV s ≤ m) {y : List Bool} {len yl : Int} :
    ∀ d i : Nat, i + d = k → ∀ slot last, PInv k m s slot L last →
    (∀ slot' last', PInv k m s slot' L last' → Both P (fun q => spec_PutSets.l5 q k m S out last' n slot' 2) (fun q => impl_PutSets.l1 q out L s slot' S len n y yl 2 k m)) →
    Both P (fun q => spec_PutSets.l6 q k m S out last n slot 1 (i : Int)) (fun q => impl_PutSets.l2 q out L s slot false S len n y yl 1 k (i : Int) k m) := by
  intro d
  induction d with
  | zero =>
    intro i hi slot last h K
    refine Both.map (fun r e => ?_) (fun r e => ?_) (K slot last h)
    · refine Ev.step (fun q => by rw [spec_PutSets.l6]) ?_
      refine ev_neg (by omega) ?_
      rw [w12]; exact e
    · refine Ev.step (fun q => by rw [impl_PutSets.l2]) ?_
      refine ev_neg (by omega) ?_
      rw [w12]; exact e
  | succ d ih =>
    intro i hi slot last h K
    have hw : wrap64 ((i : Int) + 1) = ((i + 1 : Nat) : Int) := wrap_succ (n := i) (by omega)
    have hu := u64_small (i := i) (by omega)
    have hL := h.l0
    have hL1 := h.l1
    have hS := h.ls
    have hcont := Contains_ev slot (i : Int) (by omega)
    by_cases hb : bitP s i
    · refine Both.map (fun r e => ?_) (fun r e => ?_) (ih (i + 1) (by omega) slot last h K)
      · refine Ev.step (fun q => by rw [spec_PutSets.l6]) ?_
        refine ev_pos (by omega) (ev_pos (by omega) (ev_pos (by omega) ?_))
        rw [hu, hs]
        refine ev_pos (by omega) (ev_pos hb ?_)
        rw [hw]; exact e
      · refine Ev.step (fun q => by rw [impl_PutSets.l2]) ?_
        refine ev_pos (by omega) (ev_pos (by omega) (ev_pos hb ?_))
        refine Ev.step (fun q => by rw [impl_PutSets.j4]) ?_
        refine ev_pos rfl ?_
        rw [hw]; exact e
    · have toS : ∀ r, Ev (fun q => if rd last (i : Int) < 0 then spec_PutSets.j10 q k m S out last n slot 1 (i : Int) true else (if 0 ≤ rd last (i : Int) then (if rd last (i : Int) < (slot.length : Int) then spec_PutSets.j10 q k m S out last n slot 1 (i : Int) ((rd slot (rd last (i : Int))) != (i : Int)) else none) else none)) r → Ev (fun q => spec_PutSets.l6 q k m S out last n slot 1 (i : Int)) r := by
        intro r e
        refine Ev.step (fun q => by rw [spec_PutSets.l6]) ?_
        refine ev_pos (by omega) (ev_pos (by omega) (ev_pos (by omega) ?_))
        rw [hu, hs]
        refine ev_pos (by omega) (ev_neg hb (ev_neg (by omega) ?_))
        refine Ev.step (fun q => by rw [spec_PutSets.j8]) ?_
        refine ev_neg (by simp) ?_
        refine Ev.step (fun q => by rw [spec_PutSets.j9]) ?_
        exact ev_pos rfl (ev_pos (by omega) (ev_pos (by omega) e))
      have toI : ∀ r, Ev (fun q => impl_PutSets.j4 q out L s slot false (i : Int) S len n y yl 1 k (i : Int) (slot.contains (i : Int)) k m) r → Ev (fun q => impl_PutSets.l2 q out L s slot false S len n y yl 1 k (i : Int) k m) r := by
        intro r e
        refine Ev.step (fun q => by rw [impl_PutSets.l2]) ?_
        exact ev_pos (by omega) (ev_pos (by omega) (ev_neg hb (ev_bind hcont e)))
      by_cases hin : (i : Int) ∈ slot
      · have hc1 : slot.contains (i : Int) = true := by simpa using hin
        obtain ⟨c, hc, e1, e2⟩ := h.mem.1 hin
        refine Both.map (fun r e => toS r ?_) (fun r e => toI r ?_) (ih (i + 1) (by omega) slot last h K)
        · rw [e1, e2]
          refine ev_neg (by omega) (ev_pos (by omega) (ev_pos (by omega) ?_))
          rw [bne_self_eq_false]
          refine Ev.step (fun q => by rw [spec_PutSets.j10]) ?_
          refine ev_neg (by simp) ?_
          rw [hw]; exact e
        · rw [hc1]
          refine Ev.step (fun q => by rw [impl_PutSets.j4]) ?_
          refine ev_pos rfl ?_
          rw [hw]; exact e
      · have hc1 : slot.contains (i : Int) = false := by simpa using hin
        have hfree := h.free hk h255 hmem (by omega) hb hin
        have hidx := Index_ev slot (-1) (by omega)
        rw [if_pos hfree] at hidx
        obtain ⟨f1, f2, f3⟩ := first_of hfree
        generalize hc : slot.idxOf (-1 : Int) = c at hidx f1 f2 f3
        refine Both.map (fun r e => toS r ?_) (fun r e => toI r ?_) (ih (i + 1) (by omega) (slot.set c (i : Int)) (last.set i (c : Int)) (h.put (by omega) hb (by omega) f2 hin) K)
        · have go : Ev (fun q => spec_PutSets.j10 q k m S out last n slot 1 (i : Int) true) r := by
            refine Ev.step (fun q => by rw [spec_PutSets.j10]) ?_
            refine ev_pos rfl ?_
            refine PutSets_l7 f1 (by omega) f2 (fun d hd => ?_) (by omega) ?_ c 0 (by omega)
            · rcases h.a d (by omega) with e1 | ⟨j, _, e1, _, _⟩
              · exact absurd e1 (f3 d hd)
              · omega
            · rw [hw, Int.toNat_natCast]; exact e
          rcases h.c i (by omega) with e1 | ⟨c', hc', e1⟩
          · exact ev_pos (by omega) go
          · rw [e1]
            refine ev_neg (by omega) (ev_pos (by omega) (ev_pos (by omega) ?_))
            rw [show (rd slot (c' : Int) != (i : Int)) = true from bne_iff_ne.2 (fun e2 => hin (h.mem.2 ⟨c', hc', e1, e2⟩))]
            exact go
        · rw [hc1]
          refine Ev.step (fun q => by rw [impl_PutSets.j4]) ?_
          refine ev_neg (by simp) (ev_pos (by omega) (ev_pos (by omega) (ev_neg (by simp) (ev_bind hidx ?_))))
          refine ev_neg (by omega) (ev_pos (by omega) (ev_pos (by omega) (ev_pos f2 ?_)))
          rw [hw, Int.toNat_natCast]; exact e
end Go.Proofs.Ytnmpjikiodnmnaa.Pure
end
section
namespace Go.Proofs.Ytnmpjikiodnmnaa.Pure
open Go.RowKit Go.Proofs.Ytnmpjikiodnmnaa.P Go.Proofs.YtnmpjikiodnmnaaW.PrintWords Go.Proofs.YtnmpjikiodnmnaaW.PrintLast Go.Proofs.YtnmpjikiodnmnaaW.PrintMore
set_option linter.unusedVariables false
set_option linter.unusedSimpArgs false
/-- what a slot's row adds to the tasks' channels, so far -/
structure LInv (k c : Nat) (slot last0 last Lc : List Int) : Prop where
  len : Lc.length = k
  ins : ∀ j : Nat, j < k → (∃ d : Nat, d < c ∧ rd slot d = (j : Int)) → rd Lc j = rd last j
  out : ∀ j : Nat, j < k → ¬ (∃ d : Nat, d < c ∧ rd slot d = (j : Int)) → rd Lc j = rd last0 j
theorem LInv.done {k m : Nat} {s : Int} {slot last0 last Lc : List Int} (h : PInv k m s slot last0 last) (g : LInv k m slot last0 last Lc) : Lc = last := by
  apply List.ext_getElem (by rw [g.len, h.l1])
  intro j h1 h2
  rw [← rd_nat h1, ← rd_nat h2]
  have hj : j < k := by rw [← g.len]; exact h1
  by_cases e : ∃ d : Nat, d < m ∧ rd slot d = (j : Int)
  · exact g.ins j hj e
  · rw [g.out j hj e]
    rcases h.b j hj with e1 | ⟨c, hc, _, e2⟩
    · exact e1.symm
    · exact absurd ⟨c, hc, e2⟩ e
theorem LInv.next {k m c : Nat} {s : Int} {slot last0 last Lc : List Int} (h : PInv k m s slot last0 last) (g : LInv k c slot last0 last Lc) (hc : c < m) {j : Nat} (hj : j < k) (e1 : rd slot c = (j : Int)) (e2 : rd last j = (c : Int)) : LInv k (c + 1) slot last0 last (Lc.set j (c : Int)) := by
  have r2 : ∀ d : Nat, rd (Lc.set j (c : Int)) d = if d = j then (c : Int) else rd Lc d := fun d => rd_set (by rw [g.len]; exact hj)
  refine ⟨by rw [List.length_set, g.len], fun i hi hd => ?_, fun i hi hd => ?_⟩
  · rw [r2]
    by_cases e : i = j
    · rw [if_pos e, e, e2]
    · rw [if_neg e]
      obtain ⟨d, hd, e3⟩ := hd
      exact g.ins i hi ⟨d, by by_cases q : d = c
                              · subst q; omega
                              · omega, e3⟩
  · rw [r2, if_neg (fun e => hd ⟨c, by omega, by rw [e1, e]⟩)]
    exact g.out i hi (fun ⟨d, hd', e3⟩ => hd ⟨d, by omega, e3⟩)
theorem LInv.skip {k c : Nat} {slot last0 last Lc : List Int} (g : LInv k c slot last0 last Lc) (e : rd slot c = -1) : LInv k (c + 1) slot last0 last Lc := by
  refine ⟨g.len, fun i hi hd => ?_, fun i hi hd => g.out i hi (fun ⟨d, hd', e3⟩ => hd ⟨d, by omega, e3⟩)⟩
  obtain ⟨d, hd, e3⟩ := hd
  exact g.ins i hi ⟨d, by by_cases q : d = c
                          · subst q; omega
                          · omega, e3⟩
/-- the slot's row goes to the channels -/
theorem PutSets_end {P : List (List Int) × Int → Prop} {k m : Nat} (hk : k ≤ 8) (hm : m ≤ 8) {S : List Int} {slot L last : List Int} {n : Nat} {s : Int} (hn : n < 1000) (h : PInv k m s slot L last) {len : Int}
    (K : ∀ out', out'.length = m → (∀ x ∈ out', x.length ≤ n * 8 + 8) → Both P (fun q => spec_PutSets.l3 q k m S out' last ((n + 1 : Nat) : Int)) (fun q => impl_PutSets.l0 q out' last S len ((n + 1 : Nat) : Int) k m)) :
    ∀ d c : Nat, c + d = m → ∀ (out : List (List Int)) (Lc : List Int), out.length = m → (∀ x ∈ out, x.length ≤ n * 8 + c) → LInv k c slot L last Lc →
    Both P (fun q => spec_PutSets.l8 q k m S out last n slot m (c : Int)) (fun q => impl_PutSets.l3 q out Lc S len n slot m (c : Int) k m) := by
  intro d
  induction d with
  | zero =>
    intro c hc out Lc hl hx g
    obtain rfl : c = m := by omega
    obtain rfl := g.done h
    have hw : wrap64 ((n : Int) + 1) = ((n + 1 : Nat) : Int) := wrap_succ (n := n) (by omega)
    refine Both.map (fun r e => ?_) (fun r e => ?_) (K out hl (fun x hx' => by have := hx x hx'; omega))
    · refine Ev.step (fun q => by rw [spec_PutSets.l8]) ?_
      refine ev_neg (by omega) ?_
      rw [hw]; exact e
    · refine Ev.step (fun q => by rw [impl_PutSets.l3]) ?_
      refine ev_neg (by omega) ?_
      rw [hw]; exact e
  | succ d ih =>
    intro c hc out Lc hl hx g
    have hw : wrap64 ((c : Int) + 1) = ((c + 1 : Nat) : Int) := wrap_succ (n := c) (by omega)
    have hS := h.ls
    have hg := g.len
    have hlt : c < out.length := by omega
    have hrow := hx _ (List.getElem_mem hlt)
    have hx' : ∀ x ∈ out.set c (rd_L1 out (c : Int) ++ [rd slot (c : Int)]), x.length ≤ n * 8 + (c + 1) := by
      intro x hm'
      rcases List.mem_or_eq_of_mem_set hm' with e | e
      · have := hx x e; omega
      · rw [e, List.length_append, rdL_nat hlt, List.length_singleton]; omega
    have hl' : (out.set c (rd_L1 out (c : Int) ++ [rd slot (c : Int)])).length = m := by rw [List.length_set, hl]
    have toS : ∀ r, Ev (fun q => spec_PutSets.l8 q k m S (out.set c (rd_L1 out (c : Int) ++ [rd slot (c : Int)])) last n slot m ((c + 1 : Nat) : Int)) r → Ev (fun q => spec_PutSets.l8 q k m S out last n slot m (c : Int)) r := by
      intro r e
      refine Ev.step (fun q => by rw [spec_PutSets.l8]) ?_
      refine ev_pos (by omega) (ev_pos (by omega) (ev_pos (by omega) (ev_pos (by omega) (ev_pos (by rw [rdL_nat hlt]; omega) ?_))))
      rw [hw, Int.toNat_natCast]; exact e
    rcases h.a c (by omega) with e1 | ⟨j, hj, e1, _, e2⟩
    · refine Both.map toS (fun r e => ?_) (ih (c + 1) (by omega) _ Lc hl' hx' (g.skip e1))
      refine Ev.step (fun q => by rw [impl_PutSets.l3]) ?_
      refine ev_pos (by omega) (ev_pos (by omega) (ev_pos (by omega) (ev_pos (by omega) (ev_pos (by rw [rdL_nat hlt]; omega) (ev_fix rfl (ev_pos e1 ?_))))))
      rw [hw, Int.toNat_natCast]; exact e
    · refine Both.map toS (fun r e => ?_) (ih (c + 1) (by omega) _ (Lc.set j (c : Int)) hl' hx' (g.next h (by omega) hj e1 e2))
      refine Ev.step (fun q => by rw [impl_PutSets.l3]) ?_
      refine ev_pos (by omega) (ev_pos (by omega) (ev_pos (by omega) (ev_pos (by omega) (ev_pos (by rw [rdL_nat hlt]; omega) (ev_fix rfl (ev_neg (by omega) (ev_pos (by omega) (ev_pos (by omega) ?_))))))))
      rw [hw, Int.toNat_natCast, show (rd slot (c : Int)).toNat = j by omega]; exact e
theorem PutSets_slot {k m : Int} {S : List Int} {out : List (List Int)} {last : List Int} {n : Int} {M : Nat} (hM : m = (M : Int)) (h8 : M ≤ 8) {r : List (List Int) × Int} (h : Ev (fun q => spec_PutSets.l5 q k m S out last n (List.replicate M (-1)) 0) r) :
    ∀ d c : Nat, c + d = M → Ev (fun q => spec_PutSets.l4 q k m S out last n (List.replicate c (-1)) (c : Int)) r := by
  subst hM
  intro d
  induction d with
  | zero =>
    intro c hc
    obtain rfl : c = M := by omega
    refine Ev.step (fun q => by rw [spec_PutSets.l4]) ?_
    exact ev_neg (by omega) h
  | succ d ih =>
    intro c hc
    refine Ev.step (fun q => by rw [spec_PutSets.l4]) ?_
    refine ev_pos (by omega) (ev_pos (by rw [List.length_replicate]; omega) ?_)
    rw [wrap_succ (n := c) (by omega), ← List.replicate_succ']
    exact ih (c + 1) (by omega)
theorem rd_rep {n c : Nat} (h : c < n) {x : Int} : rd (List.replicate n x) (c : Int) = x := by
  rw [rd_nat (by simpa using h)]; simp
theorem Repeat_one {n : Nat} (h : n ≤ 8) : slices_Repeat_Sint64_int64.f [-1] (n : Int) = some (List.replicate n (-1)) := by
  unfold slices_Repeat_Sint64_int64.f
  rw [if_pos ⟨rfl, by omega, by omega⟩]
  rfl
/-- all sets -/
theorem PutSets_sets {k m : Nat} (hk : k ≤ 8) (hm : m ≤ 4) {S : List Int} (hS : S.length ≤ 120) (hok : ∀ x ∈ S, (0 ≤ x ∧ x ≤ 255) ∧ membersV x ≤ m) :
    ∀ d n : Nat, n + d = S.length → ∀ (out : List (List Int)) (L : List Int), out.length = m → (∀ x ∈ out, x.length ≤ n * 8) → L.length = k → (∀ j : Nat, j < k → rd L j = -1 ∨ ∃ c : Nat, c < m ∧ rd L j = (c : Int)) →
    Both (fun r => r.1.length ≤ 1000 ∧ ∀ x ∈ r.1, x.length ≤ 1000) (fun q => spec_PutSets.l3 q k m S out L (n : Int)) (fun q => impl_PutSets.l0 q out L S (S.length : Int) (n : Int) k m) := by
  intro d
  induction d with
  | zero =>
    intro n hn out L ho hx hL hc
    refine ⟨(out, 0), ?_, ?_, by show out.length ≤ 1000; omega, fun x hx' => by have := hx x hx'; omega⟩
    · refine Ev.step (fun q => by rw [spec_PutSets.l3]) ?_
      exact ev_neg (by omega) (ev_now _)
    · refine Ev.step (fun q => by rw [impl_PutSets.l0]) ?_
      exact ev_neg (by omega) (ev_now _)
  | succ d ih =>
    intro n hn out L ho hx hL hc
    have hlt : n < S.length := by omega
    obtain ⟨h255, hmem⟩ := hok _ (List.getElem_mem hlt)
    have hs := rd_nat hlt
    generalize S[n] = s at hs h255 hmem
    have h0 : PInv k m s (List.replicate m (-1)) L L := ⟨List.length_replicate, hL, hL, fun c hc => .inl (rd_rep hc), fun j _ => .inl rfl, hc⟩
    have p := PutSets_pass0 (P := fun r => r.1.length ≤ 1000 ∧ ∀ x ∈ r.1, x.length ≤ 1000) (out := out) hk (by omega : m ≤ 8) hlt hs (y := [true, false]) (len := (S.length : Int)) (yl := (([true, false] : List Bool).length : Int)) k 0 (by omega) (List.replicate m (-1)) h0 ?_
    · refine Both.map (fun r e => ?_) (fun r e => ?_) p
      · refine Ev.step (fun q => by rw [spec_PutSets.l3]) ?_
        refine ev_pos (by omega) ?_
        refine PutSets_slot rfl (by omega) ?_ m 0 (by omega)
        refine Ev.step (fun q => by rw [spec_PutSets.l5]) ?_
        exact ev_pos (by omega) e
      · refine Ev.step (fun q => by rw [impl_PutSets.l0]) ?_
        refine ev_pos (by omega) (ev_pos (by omega) (ev_pos (by omega) (ev_fix (Repeat_one (by omega)) (ev_fix rfl ?_))))
        rw [hs]
        refine Ev.step (fun q => by rw [impl_PutSets.l1]) ?_
        exact ev_pos (by decide) (ev_pos (by omega) (ev_pos (by decide) e))
    · intro slot1 h1
      have p := PutSets_pass1 (P := fun r => r.1.length ≤ 1000 ∧ ∀ x ∈ r.1, x.length ≤ 1000) (out := out) hk (by omega : m ≤ 8) hlt hs h255 hmem (y := [true, false]) (len := (S.length : Int)) (yl := (([true, false] : List Bool).length : Int)) k 0 (by omega) slot1 L h1 ?_
      · refine Both.map (fun r e => ?_) (fun r e => ?_) p
        · refine Ev.step (fun q => by rw [spec_PutSets.l5]) ?_
          exact ev_pos (by omega) e
        · refine Ev.step (fun q => by rw [impl_PutSets.l1]) ?_
          exact ev_pos (by decide) (ev_pos (by omega) (ev_pos (by decide) e))
      · intro slot2 last2 h2
        have p := PutSets_end (P := fun r => r.1.length ≤ 1000 ∧ ∀ x ∈ r.1, x.length ≤ 1000) hk (by omega : m ≤ 8) (S := S) (n := n) (by omega) h2 (len := (S.length : Int)) (fun out' ho' hx' => ih (n + 1) (by omega) out' last2 ho' (fun x hx'' => by have := hx' x hx''; omega) h2.l1 h2.c) m 0 (by omega) out L ho (fun x hx' => by have := hx x hx'; omega) ⟨hL, fun j _ ⟨d, hd, _⟩ => absurd hd (Nat.not_lt_zero d), fun j _ _ => rfl⟩
        refine Both.map (fun r e => ?_) (fun r e => ?_) p
        · refine Ev.step (fun q => by rw [spec_PutSets.l5]) ?_
          refine ev_neg (by omega) ?_
          rw [ho]; exact e
        · refine Ev.step (fun q => by rw [impl_PutSets.l1]) ?_
          refine ev_neg (by decide) ?_
          rw [h2.ls]; exact e
theorem l08Size_ev {x : Int} (h : 0 ≤ x ∧ x ≤ 255) : Ev (fun q => spec_l08Size.f q x) (membersV x) := by
  have key : ∀ s : Fin 256, spec_l08Size.f 12 (s.val : Int) = some (membersV (s.val : Int)) := by decide +kernel
  have := key ⟨x.toNat, by omega⟩
  have es : ((x.toNat : Nat) : Int) = x := by omega
  simp only [es] at this
  exact Ev.of (fun q => spec_l08Size.mono x q) this
theorem PutSets_top : ∀ k : Fin 9, wrap64 (shl .i64 1 (k.val : Int) - 1) ≤ 255 := by decide +kernel
theorem PutSets_guard {k : Nat} (hk : k ≤ 8) {m : Int} {S : List Int} (hS : S.length ≤ 120) {r : List (List Int) × Int} (hr : (S.all fun x => setOk k m x) = true → Ev (fun q => spec_PutSets.l1 q k m S [] [] 0) r) (hf : (S.all fun x => setOk k m x) = false → r = ([], 2)) :
    ∀ d n : Nat, n + d = S.length → (S.take n).all (fun x => setOk k m x) = true → Ev (fun q => spec_PutSets.l0 q k m S (n : Int)) r := by
  intro d
  induction d with
  | zero =>
    intro n hn ha
    rw [List.take_of_length_le (by omega)] at ha
    refine Ev.step (fun q => by rw [spec_PutSets.l0]) ?_
    exact ev_neg (by omega) (hr ha)
  | succ d ih =>
    intro n hn ha
    have hlt : n < S.length := by omega
    have hu := u64_small (i := k) (by omega)
    have ht := PutSets_top ⟨k, by omega⟩
    simp only at ht
    refine Ev.step (fun q => by rw [spec_PutSets.l0]) ?_
    refine ev_pos (by omega) (ev_pos (by omega) (ev_pos (by omega) (ev_fix (l01In_f _ _ _) ?_)))
    rw [hu, rd_nat hlt]
    by_cases h1 : 0 ≤ S[n] ∧ S[n] ≤ wrap64 (shl .i64 1 (k : Int) - 1)
    · refine ev_pos (decide_eq_true h1) (ev_bind (l08Size_ev (by omega)) ?_)
      by_cases h2 : membersV S[n] ≤ m
      · refine ev_neg (by omega) ?_
        rw [wrap_succ (n := n) (by omega)]
        refine ih (n + 1) (by omega) ?_
        rw [all_take_succ _ _ _ hlt, ha, setOk, decide_eq_true h1, decide_eq_true h2]
        rfl
      · refine ev_pos (by omega) ?_
        rw [hf (all_false_at _ _ n hlt (by rw [setOk, decide_eq_false h2, Bool.and_false]))]
        exact ev_now _
    · refine ev_neg (by rw [decide_eq_false h1]; simp) ?_
      rw [hf (all_false_at _ _ n hlt (by rw [setOk, decide_eq_false h1, Bool.false_and]))]
      exact ev_now _
theorem PutSets_chan {k m : Int} {S : List Int} {M : Nat} (hM : m = (M : Int)) (h8 : M ≤ 8) {r : List (List Int) × Int} (h : Ev (fun q => spec_PutSets.l2 q k m S (List.replicate M []) [] 0) r) :
    ∀ d c : Nat, c + d = M → Ev (fun q => spec_PutSets.l1 q k m S (List.replicate c []) [] (c : Int)) r := by
  subst hM
  intro d
  induction d with
  | zero =>
    intro c hc
    obtain rfl : c = M := by omega
    refine Ev.step (fun q => by rw [spec_PutSets.l1]) ?_
    exact ev_neg (by omega) h
  | succ d ih =>
    intro c hc
    refine Ev.step (fun q => by rw [spec_PutSets.l1]) ?_
    refine ev_pos (by omega) (ev_pos (by rw [List.length_replicate]; omega) ?_)
    rw [wrap_succ (n := c) (by omega), ← List.replicate_succ']
    exact ih (c + 1) (by omega)
theorem PutSets_last {k m : Int} {S : List Int} {out : List (List Int)} {K : Nat} (hK : k = (K : Int)) (h8 : K ≤ 8) {r : List (List Int) × Int} (h : Ev (fun q => spec_PutSets.l3 q k m S out (List.replicate K (-1)) 0) r) :
    ∀ d c : Nat, c + d = K → Ev (fun q => spec_PutSets.l2 q k m S out (List.replicate c (-1)) (c : Int)) r := by
  subst hK
  intro d
  induction d with
  | zero =>
    intro c hc
    obtain rfl : c = K := by omega
    refine Ev.step (fun q => by rw [spec_PutSets.l2]) ?_
    exact ev_neg (by omega) h
  | succ d ih =>
    intro c hc
    refine Ev.step (fun q => by rw [spec_PutSets.l2]) ?_
    refine ev_pos (by omega) (ev_pos (by rw [List.length_replicate]; omega) ?_)
    rw [wrap_succ (n := c) (by omega), ← List.replicate_succ']
    exact ih (c + 1) (by omega)
theorem PutSets_bad_s (k m : Int) (S : List Int) : Ev (fun q => spec_PutSets.j0 q k m S true) ([], 2) := by
  refine Ev.step (fun q => by rw [spec_PutSets.j0]) ?_
  exact ev_pos rfl (ev_now _)
theorem PutSets_bad_i (k m : Int) (S : List Int) : Ev (fun q => impl_PutSets.j0 q S true k m) ([], 2) := by
  refine Ev.step (fun q => by rw [impl_PutSets.j0]) ?_
  exact ev_pos rfl (ev_now _)
theorem PutSets_both (k m : Int) (S : List Int) : Both (fun r => r.1.length ≤ 1000 ∧ ∀ x ∈ r.1, x.length ≤ 1000) (fun q => spec_PutSets.f q k m S) (fun q => impl_PutSets.f q k m S) := by
  have bad : ∀ A B : Nat → Option (List (List Int) × Int), Ev A ([], 2) → Ev B ([], 2) → Both (fun r => r.1.length ≤ 1000 ∧ ∀ x ∈ r.1, x.length ≤ 1000) A B := fun A B a b => ⟨([], 2), a, b, by simp, by simp⟩
  have many : ∀ x, impl_isMany.f x = some (decide (1 ≤ x ∧ x ≤ 8)) := fun x => by unfold impl_isMany.f; rw [within_f]; rfl
  have chans : ∀ x, impl_isChannels.f x = some (decide (1 ≤ x ∧ x ≤ 4)) := fun x => by unfold impl_isChannels.f; rw [within_f]; rfl
  unfold spec_PutSets.f impl_PutSets.f
  by_cases hk : 1 ≤ k ∧ k ≤ 8
  · by_cases hm : 1 ≤ m ∧ m ≤ 4
    · by_cases hl : 1 ≤ (S.length : Int) ∧ (S.length : Int) ≤ 120
      · obtain ⟨K, rfl⟩ : ∃ K : Nat, k = (K : Int) := ⟨k.toNat, by omega⟩
        obtain ⟨M, rfl⟩ : ∃ M : Nat, m = (M : Int) := ⟨m.toNat, by omega⟩
        have toS : ∀ r, Ev (fun q => spec_PutSets.l0 q K M S 0) r → Ev (fun q => (spec_l01In.f K 1 8).bind fun t101 => (if t101 = true then ((spec_l01In.f M 1 4).bind fun t102 => (if t102 = true then (if (S.length : Int) < 1 then (spec_PutSets.j0 q K M S true) else (spec_PutSets.j0 q K M S (decide ((S.length : Int) > 120)))) else (spec_PutSets.j0 q K M S true))) else (spec_PutSets.j0 q K M S true))) r := by
          intro r e
          refine ev_fix (l01In_f _ _ _) (ev_pos (decide_eq_true hk) (ev_fix (l01In_f _ _ _) (ev_pos (decide_eq_true hm) (ev_neg (by omega) ?_))))
          rw [show decide ((S.length : Int) > 120) = false from decide_eq_false (by omega)]
          refine Ev.step (fun q => by rw [spec_PutSets.j0]) ?_
          exact ev_neg (by simp) e
        have toI : ∀ r, Ev (fun q => impl_PutSets.j0 q S (!(S.all fun x => setOk K M x)) K M) r → Ev (fun q => (impl_isMany.f K).bind fun t103 => (if t103 = true then ((impl_isChannels.f M).bind fun t104 => (if t104 = true then ((impl_length_int64.f S).bind fun t105 => ((impl_within.f t105 1 120).bind fun t106 => (if t106 = true then ((impl_PutSets_1.f S K M).bind fun t107 => (impl_PutSets.j0 q S (!t107) K M)) else (impl_PutSets.j0 q S true K M)))) else (impl_PutSets.j0 q S true K M))) else (impl_PutSets.j0 q S true K M))) r := by
          intro r e
          refine ev_fix (many _) (ev_pos (decide_eq_true hk) (ev_fix (chans _) (ev_pos (decide_eq_true hm) (ev_fix (show impl_length_int64.f S = some (S.length : Int) from rfl) (ev_fix (within_f _ _ _) (ev_pos (decide_eq_true hl) (ev_fix (show impl_PutSets_1.f S K M = some (S.all fun x => setOk K M x) from if_pos (by omega)) e)))))))
        by_cases ha : (S.all fun x => setOk K M x) = true
        · have hok : ∀ x ∈ S, (0 ≤ x ∧ x ≤ 255) ∧ membersV x ≤ M := by
            intro x hx
            have := (List.all_eq_true.1 ha) x hx
            have ht := PutSets_top ⟨K, by omega⟩
            simp only at ht
            rw [setOk, Bool.and_eq_true, decide_eq_true_iff, decide_eq_true_iff] at this
            exact ⟨by omega, this.2⟩
          have p := PutSets_sets (k := K) (m := M) (by omega) (by omega) (S := S) (by omega) hok S.length 0 (by omega) (List.replicate M []) (List.replicate K (-1)) List.length_replicate (fun x hx => by rw [(List.mem_replicate.1 hx).2]; simp) List.length_replicate (fun j hj => .inl (rd_rep hj))
          refine Both.map (fun r e => toS r ?_) (fun r e => toI r ?_) p
          · refine PutSets_guard (by omega) (by omega) (fun _ => ?_) (fun h => by rw [ha] at h; cases h) S.length 0 (by omega) rfl
            exact PutSets_chan rfl (by omega) (PutSets_last rfl (by omega) e K 0 (by omega)) M 0 (by omega)
          · rw [ha]
            refine Ev.step (fun q => by rw [impl_PutSets.j0]) ?_
            refine ev_neg (by simp) (ev_pos (by omega) (ev_pos (by omega) (ev_fix (Repeat_one (by omega)) ?_)))
            rw [Int.toNat_natCast]; exact e
        · have ha' : (S.all fun x => setOk K M x) = false := Bool.eq_false_iff.2 ha
          refine bad _ _ (toS _ ?_) (toI _ ?_)
          · exact PutSets_guard (by omega) (by omega) (fun h => absurd h ha) (fun _ => rfl) S.length 0 (by omega) rfl
          · rw [ha']; exact PutSets_bad_i _ _ _
      · refine bad _ _ ?_ ?_
        · refine ev_fix (l01In_f _ _ _) (ev_pos (decide_eq_true hk) (ev_fix (l01In_f _ _ _) (ev_pos (decide_eq_true hm) ?_)))
          by_cases h1 : (S.length : Int) < 1
          · exact ev_pos h1 (PutSets_bad_s _ _ _)
          · refine ev_neg h1 ?_
            rw [show decide ((S.length : Int) > 120) = true from decide_eq_true (by omega)]
            exact PutSets_bad_s _ _ _
        · exact ev_fix (many _) (ev_pos (decide_eq_true hk) (ev_fix (chans _) (ev_pos (decide_eq_true hm) (ev_fix (show impl_length_int64.f S = some (S.length : Int) from rfl) (ev_fix (within_f _ _ _) (ev_neg (by rw [decide_eq_false hl]; simp) (PutSets_bad_i _ _ _)))))))
    · refine bad _ _ ?_ ?_
      · exact ev_fix (l01In_f _ _ _) (ev_pos (decide_eq_true hk) (ev_fix (l01In_f _ _ _) (ev_neg (by rw [decide_eq_false hm]; simp) (PutSets_bad_s _ _ _))))
      · exact ev_fix (many _) (ev_pos (decide_eq_true hk) (ev_fix (chans _) (ev_neg (by rw [decide_eq_false hm]; simp) (PutSets_bad_i _ _ _))))
  · refine bad _ _ ?_ ?_
    · exact ev_fix (l01In_f _ _ _) (ev_neg (by rw [decide_eq_false hk]; simp) (PutSets_bad_s _ _ _))
    · exact ev_fix (many _) (ev_neg (by rw [decide_eq_false hk]; simp) (PutSets_bad_i _ _ _))
theorem FnExactPutSets : laws_FnExactPutSets.Pure := by
  intro k m l _ _ hl0
  refine ev_rounds (g := fun q => laws_FnExactPutSets.f q k m l) ?_
  unfold laws_FnExactPutSets.f
  by_cases hl : (l.length : Int) > 1048576
  · exact ev_pos hl (ev_now _)
  · obtain ⟨r, es, ei, s1, s2⟩ := PutSets_both k m l
    obtain ⟨m2, x2, hm2, p2, hh⟩ := marked_ev r.1 (by omega) (fun x hx => by have := s2 x hx; omega)
    refine ev_neg hl (ev_bind (toInt64S_ev l (by omega)) (ev_pos rfl (ev_bind es (ev_bind ei (ev_pos rfl ?_)))))
    refine ev_bind (eqInt64SS_ev _ (by omega) (fun x hx => by have := s2 x hx; omega)) (ev_pos rfl (ev_bind (eqInt64S_ev l (by omega)) (ev_pos rfl ?_)))
    exact ev_bind (markInt64S_ev l 1 (by omega) (by omega)) (ev_pos (show (0 : Int) ≤ 1 + l.length by omega) (ev_bind hm2 (ev_bind hh (ev_pos ⟨p2, rfl⟩ (ev_now _)))))
end Go.Proofs.Ytnmpjikiodnmnaa.Pure
end
section
namespace Go.Proofs.Ytnmpjikiodnmnaa.fnExactPutSets
open Go.ChangeShapes Go.WideShapes Go.ChangeAt Go.RowKit Go.Deep Go.Proofs.Ytnmpjikiodnmnaa.P
open Go.ChangeMaps (open_string shut_string)
set_option linter.unusedVariables false
theorem own : ownKnob Try.prog.godebug = none := by kernel_rfl
theorem laidOut : laidOutB Try.prog = true := by kernel_rfl
set_option maxRecDepth 100000 in
theorem lifted (os : Os) (started : os.Started) (H : Type) (enc : TypeId × Value → H) :
    ReturnsInHanded {} Try.checked os 3 .any (Rows.fnExactPutSetsSpec.pre6 enc Try.prog Try.f3 Rows.fnExactPutSetsRow.domain false) (Rows.fnExactPutSetsSpec.post enc Try.prog Try.f3 false true false false) := by
  refine returnsInHanded_of_change_sized (C := Try.checked) own started (by kernel_rfl) Try.func3
    (ChangeSpec.witness6 (enc := enc) (C := Try.checked) false ⟨#[], #[.int .i64 0, .int .i64 0, .slice none 0 0], []⟩ 8 (by kernel_rfl) (by kernel_rfl) (by kernel_rfl) (by kernel_rfl)) ?_
  intro W base args ds gs before hval0 hW hcnd hsz0 _
  have hsz : (DataW.weightsEach Try.prog (Try.f3.params.toList ++ Rows.fnExactPutSetsSpec.plain.varTypes Try.prog) (ds ++ gs)).all (· ≤ reachBytes) = true := hsz0
  have hval : ∀ (j : Nat) t v, Try.f3.params[j]? = some t → args[j]? = some v → Value.okWide Try.prog W .any base t v := hval0
  have hW' := hW
  obtain ⟨p, q, hA0, hV, rfl, hfz, hnd⟩ := hW
  have hA : DataW.TrodAll enc Try.prog W 0 (fun _ => true) true Try.f3.params.toList args.toList ds p := hA0
  rw [Try.params3] at hA hval hsz
  obtain ⟨v0, vs0, d0, ds0, p0, q0, hargs, rfl, rfl, h0, r0⟩ := trodAll_cons hA
  obtain ⟨v1, vs1, d1, ds1, p1, q1, rfl, rfl, rfl, h1, r1⟩ := trodAll_cons r0
  obtain ⟨v2, vs2, d2, ds2, p2, q2, rfl, rfl, rfl, h2, r2⟩ := trodAll_cons r1
  obtain ⟨rfl, rfl, rfl⟩ := trodAll_nil r2
  obtain rfl : args = #[v0, v1, v2] := by cases args; simp_all
  obtain ⟨rfl, rfl⟩ := trodVars_none hV
  obtain ⟨a0, rfl, rfl, rfl, w0⟩ := open_int Try.underlying2 (hval 0 2 v0 rfl rfl) h0
  obtain ⟨a1, rfl, rfl, rfl, w1⟩ := open_int Try.underlying2 (hval 1 2 v1 rfl rfl) h1
  have k2 := h2
  have lt2 : ∀ x ∈ p2, x.block < W.heap.size := by obtain ⟨m, hm⟩ := k2; exact DataW.trod_lt m _ _ _ hm
  obtain ⟨l2, A2, c2, rfl, hc2, hr2, w2⟩ := open_row (opens_int Try.underlying2) Try.underlying22 (by kernel_rfl) rfl (hval 2 22 v2 rfl rfl) h2
  clear hA0 hval0 hsz0 hsz
  refine (P.laws_FnExactPutSets.walk Pure.FnExactPutSets a0 a1 A2 c2 l2 W hr2 hc2 w0 w1 w2).mono fun e W' ⟨he, bel⟩ => ?_
  subst he
  exact ⟨_, rfl, _, _, _, [], _, [], hW', trodAll_mk1 (shut_bool Try.underlying4 _), (trodAll_cons_mk (shut_int Try.underlying2 w0) (trodAll_cons_mk (shut_int Try.underlying2 w1) (trodAll_cons_mk (Below.trod laidOut (by kernel_rfl) (of_decide_eq_true (by kernel_rfl)) k2 bel lt2) trodAll_mk0))), rfl, bel.frame _, fun h => by cases h⟩
theorem over : Rows.fnExactPutSetsRow.holds Try.pinned (OpenSpec.ofChange Rows.fnExactPutSetsSpec) :=
  OpenClaim.holds_of_wide 3 Try.f3 rfl rfl rfl rfl rfl rfl rfl ⟨rfl, rfl, rfl, rfl, rfl⟩ rfl rfl rfl rfl rfl (by kernel_rfl) Try.func3 (by kernel_rfl)
    (of_decide_eq_true (by kernel_rfl)) (by unfold Func.isWrapper; first | (rw [if_pos (by decide +kernel)]; kernel_rfl) | (rw [if_neg (by decide +kernel)]; exact ⟨rfl, rfl⟩))
    (fun os started H enc _ => lifted os started H enc)
theorem proved : Rows.FnExactPutSetsSaid := over
end Go.Proofs.Ytnmpjikiodnmnaa.fnExactPutSets
namespace Go.Proofs.Ytnmpjikiodnmnaa
/-- The row, under a short name, for the claim. -/
theorem fnExactPutSets_holds : Rows.FnExactPutSetsSaid := fnExactPutSets.proved
end Go.Proofs.Ytnmpjikiodnmnaa
end
