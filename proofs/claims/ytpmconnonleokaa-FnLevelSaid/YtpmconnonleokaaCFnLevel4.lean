/- Greedy turns and deadline turns have their shares, least differences are not greater than those of greedy turns, and doubled turns are balanced. -/
import Derived.Test.YtpmconnonleokaaCFnLevel3
section
namespace Go.Proofs.Ytpmconnonleokaa.P
open Go.RowKit Go.Proofs.YtpmconnonleokaaW.PrintWords Go.Proofs.YtpmconnonleokaaW.PrintLast Go.Proofs.YtpmconnonleokaaW.PrintMore
attribute [local go_sem] max2_int min2_int max_two min_two max_three min_three max_four min_four   -- for this text's walks alone
set_option linter.unusedVariables false
set_option linter.unusedSimpArgs false
set_option maxHeartbeats 8000000 in
set_option maxRecDepth 100000 in
theorem spec_DrawLeastDifference.calls (k : Nat) (A0 : Option Addr) (c0 : Nat) (l0 : List Int) (r : List Int) (w : World) (hr0 : Kd.C (Kd.int .u8) w A0 l0.length l0) (hc0 : l0.length ≤ c0) (h : spec_DrawLeastDifference.f k l0 = some r) :
    Calls Try.prog 5 #[.slice A0 l0.length c0] w fun e w' => ∃ v0_ : Value, e = .returned (v0_) ∧ Kd.R (Kd.int .i64) 2 w' w.heap.size (fun _ => True) v0_ r ∧ Below w.heap.size w w' := by
 have HR0 := Aside0.mk hr0
 have HC0 := Aside0.mk hc0
 clear hr0 hc0
 have HB := Aside0.mk (Below.refl w.heap.size w)
 have H : ((spec_l07Told.f k l0).bind fun t101 => (some t101)) = some r := h
 clear h
 replace H := Option.bind_eq_some_iff.mp H
 obtain ⟨t101, A20, H⟩ := H
 replace H : (some t101) = some r := H
 have A2 := Aside0.mk A20
 clear A20
 obtain rfl := Option.some.inj H
 go_enter Try.func5, Try.ntmps5
 go_wp2_with (first | ((with_reducible refine gate_callee (f := 25) rfl ?_); refine goesL_ (some 4) rfl rfl Try.func25 zk rfl #[.slice A0 l0.length c0] rfl zA ?_; (with_reducible refine (spec_l07Told.calls k _ _ l0 t101 _ ?side1 ?side2 A2.out).mono ?_); (case side1 => exact zC HR0.out); (case side2 => exact HC0.out); rintro e w3 ⟨v102, rfl, ho0, hb⟩; refine ⟨_, rfl, ?_⟩; have n_ := y2 (Kd.R_lower ho0 (below_size (zB))) (below_step (zB) hb); clear HB; obtain ⟨HO103, HB⟩ := n_; (try clear hb); (try clear hb2); (try clear hk); (try clear hi); (try clear ho0)))
 go_ret
 exact ⟨_, zE, zR HO103.out, zB⟩
end Go.Proofs.Ytpmconnonleokaa.P
end
section
namespace Go.Proofs.Ytpmconnonleokaa.P
open Go.RowKit Go.Proofs.YtpmconnonleokaaW.PrintWords Go.Proofs.YtpmconnonleokaaW.PrintLast Go.Proofs.YtpmconnonleokaaW.PrintMore
attribute [local go_sem] max2_int min2_int max_two min_two max_three min_three max_four min_four   -- for this text's walks alone
set_option linter.unusedVariables false
set_option linter.unusedSimpArgs false
def impl_total.l0 : Nat → Int → List Int → Int → Int → Option (Int)
  | 0, _, _, _, _ => none
  | k + 1, x3, x6, x7, x8 => if x8 < x7 then (if 0 ≤ x8 then (if x8 < (x6.length : Int) then (impl_total.l0 k (wrap64 (x3 + (rd x6 x8))) x6 x7 (wrap64 (x8 + 1))) else (none)) else (none)) else (some x3)
def impl_total.f (k : Nat) (l0 : List Int) : Option (Int) := impl_total.l0 k 0 l0 (l0.length : Int) 0
theorem impl_total.mono_l : ∀ k, (∀ y0 y1 y2 y3, LeO (impl_total.l0 k y0 y1 y2 y3) (impl_total.l0 (k + 1) y0 y1 y2 y3))
  | 0 => fun _ _ _ _ r h => by simp [impl_total.l0] at h
  | k + 1 => by
    have ih0 := impl_total.mono_l k
    · intro y0 y1 y2 y3
      unfold impl_total.l0
      repeat' first | (with_reducible exact ih0 _ _ _ _) | (with_reducible exact LeO.refl _) | (with_reducible exact LeO.none _) | (with_reducible refine LeO.ite ?_ ?_) | (with_reducible refine LeO.bind ?_ (fun _ => ?_)) | exact ih0 _ _ _ _ | exact LeO.none _ | refine LeO.ite ?_ ?_ | refine LeO.bind ?_ (fun _ => ?_)
theorem impl_total.mono : ∀ a0 k, LeO (impl_total.f k a0) (impl_total.f (k + 1) a0) := by
  intro a0 k
  have ih0 := impl_total.mono_l k
  unfold impl_total.f
  repeat' first | (with_reducible exact ih0 _ _ _ _) | (with_reducible exact LeO.refl _) | (with_reducible exact LeO.none _) | (with_reducible refine LeO.ite ?_ ?_) | (with_reducible refine LeO.bind ?_ (fun _ => ?_)) | exact ih0 _ _ _ _ | exact LeO.none _ | refine LeO.ite ?_ ?_ | refine LeO.bind ?_ (fun _ => ?_)
set_option maxHeartbeats 8000000 in
set_option maxRecDepth 100000 in
theorem impl_total.calls (k : Nat) (A0 : Option Addr) (c0 : Nat) (l0 : List Int) (r : Int) (w : World) (hr0 : Kd.C (Kd.int .i64) w A0 l0.length l0) (hc0 : l0.length ≤ c0) (h : impl_total.f k l0 = some r) :
    Calls Try.prog 30 #[.slice A0 l0.length c0] w fun e w' => e = .returned (.int .i64 r) ∧ Drawn0 w w' := by
 have HR0 := Aside0.mk hr0
 have HC0 := Aside0.mk hc0
 clear hr0 hc0
 have H : (impl_total.l0 k 0 l0 (l0.length : Int) 0) = some r := h
 clear h
 have H' := Aside0.mk H
 clear H
 go_enter Try.func30, Try.ntmps30
 go_wp2
 go_loopg [3, 8] k (fun kq v3 v8 w' => ∃ (x3_1 : Int) (x8_1 : Int), v3 = .int .i64 x3_1 ∧ v8 = .int .i64 x8_1 ∧ Aside0 (impl_total.l0 kq x3_1 l0 (l0.length : Int) x8_1 = some r) ∧ Aside0 (kq ≤ k) ∧ Drawn0 w w')
 case atStart => exact ⟨(0), (0), zF, zF, H', ⟨Nat.le_refl _⟩, by repeat (first | exact Drawn0.refl _ | apply Drawn0.step)⟩
 clear H'
 obtain ⟨x3_1, x8_1, rfl, rfl, HA, HK1, ⟨m1, rfl⟩⟩ := hrel
 cases gk with
 | zero => exact absurd HA.out (by simp [impl_total.l0])
 | succ k1 =>
   have H := HA.out
   clear HA
   simp only [impl_total.l0] at H
   by_cases c2 : x8_1 < (l0.length : Int)
   · rw [if_pos c2] at H
     have c2b0 : decide (x8_1 < (l0.length : Int)) = true := decide_eq_true c2
     clear c2
     by_cases c3 : 0 ≤ x8_1
     · rw [if_pos c3] at H
       have c3b0 : decide (0 ≤ x8_1) = true := decide_eq_true c3
       clear c3
       by_cases c4 : x8_1 < (l0.length : Int)
       · rw [if_pos c4] at H
         have c4b0 : decide (x8_1 < (l0.length : Int)) = true := decide_eq_true c4
         clear c4
         have H' := Aside0.mk H
         clear H
         have p101 : 0 ≤ (x8_1 : Int) := zD
         have q101 : x8_1 < (l0.length : Int) := zD
         obtain ⟨ad101, e101, hx101_0⟩ := Kd.at_int HR0.out x8_1 p101 q101
         cases e101
         replace p101 := eq_true p101
         replace q101 := eq_true q101
         go_wp2
         go_roundg k1
         case measure => have := HK1.out; omega
         case rel => exact ⟨(wrap64 (x3_1 + (rd l0 x8_1))), (wrap64 (x8_1 + 1)), zF, zF, H', ⟨by have := HK1.out; omega⟩, by repeat (first | exact Drawn0.refl _ | apply Drawn0.step)⟩
       · rw [if_neg c4] at H
         exact absurd H (by simp)
     · rw [if_neg c3] at H
       exact absurd H (by simp)
   · rw [if_neg c2] at H
     have c2b0 : decide (x8_1 < (l0.length : Int)) = false := decide_eq_false c2
     clear c2
     obtain rfl := Option.some.inj H
     go_wp2
     go_ret
     exact ⟨by first | rfl | (simp; done) | (simp [*]; done), by repeat (first | exact Drawn0.refl _ | apply Drawn0.step)⟩
end Go.Proofs.Ytpmconnonleokaa.P
end
section
namespace Go.Proofs.Ytpmconnonleokaa.P
open Go.RowKit Go.Proofs.YtpmconnonleokaaW.PrintWords Go.Proofs.YtpmconnonleokaaW.PrintLast Go.Proofs.YtpmconnonleokaaW.PrintMore
attribute [local go_sem] max2_int min2_int max_two min_two max_three min_three max_four min_four   -- for this text's walks alone
set_option linter.unusedVariables false
set_option linter.unusedSimpArgs false
theorem fv_areShares_1 (x : Int) (W : World) :
    Calls Try.prog 57 (#[.int .i64 x] ++ #[]) W fun e w' => e = .returned (.bool (decide (1 ≤ x ∧ x ≤ 60))) ∧ Below W.heap.size W w' := by
  have HQ := Aside0.mk (impl_within.calls x 1 60 _ W (within_f x 1 60))
  generalize decide (1 ≤ x ∧ x ≤ 60) = b at HQ ⊢
  show Calls Try.prog 57 #[.int .i64 x] W _
  go_enter Try.func57, Try.ntmps57
  go_wp2_with (go_at_call 39; refine HQ.out.mono ?_; rintro e w' ⟨rfl, hb1⟩)
  go_ret
  exact ⟨rfl, hb1.below⟩
def impl_areShares.f (k : Nat) (l0 : List Int) : Option Bool :=
  if (1 ≤ (l0.length : Int) ∧ (l0.length : Int) ≤ 8) ∧ l0.all (fun g => decide (1 ≤ g ∧ g ≤ 60)) = true then (impl_total.f k l0).bind fun t => some (decide (t ≤ 60)) else some false
theorem impl_areShares.mono : ∀ a0 k, LeO (impl_areShares.f k a0) (impl_areShares.f (k + 1) a0) := by
  intro a0 k
  unfold impl_areShares.f
  refine LeO.ite ?_ (LeO.refl _)
  exact LeO.bind (impl_total.mono _ _) (fun _ => LeO.refl _)
set_option maxHeartbeats 4000000 in
set_option maxRecDepth 100000 in
theorem impl_areShares.calls (k : Nat) (A0 : Option Addr) (c0 : Nat) (l0 : List Int) (r : Bool) (w : World) (hr0 : Kd.C (Kd.int .i64) w A0 l0.length l0) (hc0 : l0.length ≤ c0) (h : impl_areShares.f k l0 = some r) :
    Calls Try.prog 26 #[.slice A0 l0.length c0] w fun e w' => e = .returned (.bool r) ∧ Below w.heap.size w w' := by
  have e1 : ∀ args w, (callFunc 57 args).run Try.prog w = .ok (.enter 57 args) w := enters_of Try.func57 zk rfl
  have HQ := Aside0.mk (fun (W : World) (hb : Below w.heap.size w W) => fv_areAll 57 #[] e1 (fun g => decide (1 ≤ g ∧ g ≤ 60)) A0 c0 l0 W (Kd.C_below hr0 hb) hc0 (fun W' x _ _ => fv_areShares_1 x W'))
  have HL := Aside0.mk (fun (W : World) (hb : Below w.heap.size w W) => impl_length_int64.calls A0 c0 l0 _ W (Kd.C_below hr0 hb) hc0 rfl)
  have HT := Aside0.mk (fun (t : Int) (ht : impl_total.f k l0 = some t) (W : World) (hb : Below w.heap.size w W) => impl_total.calls k A0 c0 l0 t W (Kd.C_below hr0 hb) hc0 ht)
  clear hr0 hc0 e1
  have HB := Aside0.mk (Below.refl w.heap.size w)
  unfold impl_areShares.f at h
  by_cases h1 : 1 ≤ (l0.length : Int) ∧ (l0.length : Int) ≤ 8
  · have HW := Aside0.mk (fun W => impl_within.calls (l0.length : Int) 1 8 _ W (within_yes h1))
    cases h2 : l0.all (fun g => decide (1 ≤ g ∧ g ≤ 60)) with
    | true =>
      rw [if_pos ⟨h1, h2⟩] at h
      obtain ⟨t, ht, h3⟩ := Option.bind_eq_some_iff.mp h
      obtain rfl := Option.some.inj h3
      rw [h2] at HQ
      have HTT := Aside0.mk (HT.out t ht)
      clear HT h h1 h2 h3 ht
      have hd : ∀ b, decide (t ≤ 60) = b → decide (t ≤ 60) = b := fun _ h => h
      clear hd
      go_enter Try.func26, Try.ntmps26
      go_wp2_with (first
        | (go_at_call 51; refine (HL.out _ (by repeat (first | exact HB.out | apply below_alloc | apply pw_below_drewN | apply below_drew1))).mono ?_; rintro e w' ⟨rfl, ⟨n1, rfl⟩⟩)
        | (go_at_call 39; refine (HW.out _).mono ?_; rintro e w' ⟨rfl, ⟨n2, rfl⟩⟩)
        | (go_at_call 56; refine (HQ.out _ (by repeat (first | exact HB.out | apply below_alloc | apply pw_below_drewN | apply below_drew1))).mono ?_; rintro e w1 ⟨rfl, hb1⟩; have HB1 := Aside0.mk (below_step (by repeat (first | exact HB.out | apply below_alloc | apply pw_below_drewN | apply below_drew1)) hb1); clear hb1)
        | (go_at_call 30; refine (HTT.out _ (by repeat (first | exact HB1.out | apply below_alloc | apply pw_below_drewN | apply below_drew1))).mono ?_; rintro e w' ⟨rfl, ⟨n3, rfl⟩⟩))
      go_ret
      exact ⟨rfl, by repeat (first | exact HB1.out | apply below_alloc | apply pw_below_drewN | apply below_drew1)⟩
    | false =>
      rw [if_neg (fun hh => by rw [h2] at hh; exact absurd hh.2 (by simp))] at h
      obtain rfl := Option.some.inj h
      rw [h2] at HQ
      clear HT h h1 h2
      go_enter Try.func26, Try.ntmps26
      go_wp2_with (first
        | (go_at_call 51; refine (HL.out _ (by repeat (first | exact HB.out | apply below_alloc | apply pw_below_drewN | apply below_drew1))).mono ?_; rintro e w' ⟨rfl, ⟨n1, rfl⟩⟩)
        | (go_at_call 39; refine (HW.out _).mono ?_; rintro e w' ⟨rfl, ⟨n2, rfl⟩⟩)
        | (go_at_call 56; refine (HQ.out _ (by repeat (first | exact HB.out | apply below_alloc | apply pw_below_drewN | apply below_drew1))).mono ?_; rintro e w1 ⟨rfl, hb1⟩; have HB1 := Aside0.mk (below_step (by repeat (first | exact HB.out | apply below_alloc | apply pw_below_drewN | apply below_drew1)) hb1); clear hb1))
      go_ret
      exact ⟨rfl, by repeat (first | exact HB1.out | apply below_alloc | apply pw_below_drewN | apply below_drew1)⟩
  · have HW := Aside0.mk (fun W => impl_within.calls (l0.length : Int) 1 8 _ W (within_not h1))
    rw [if_neg (fun hh => h1 hh.1)] at h
    obtain rfl := Option.some.inj h
    clear HT h h1 HQ
    go_enter Try.func26, Try.ntmps26
    go_wp2_with (first
      | (go_at_call 51; refine (HL.out _ (by repeat (first | exact HB.out | apply below_alloc | apply pw_below_drewN | apply below_drew1))).mono ?_; rintro e w' ⟨rfl, ⟨n1, rfl⟩⟩)
      | (go_at_call 39; refine (HW.out _).mono ?_; rintro e w' ⟨rfl, ⟨n2, rfl⟩⟩))
    go_ret
    exact ⟨rfl, by repeat (first | exact HB.out | apply below_alloc | apply pw_below_drewN | apply below_drew1)⟩
end Go.Proofs.Ytpmconnonleokaa.P
end
section
namespace Go.Proofs.Ytpmconnonleokaa.P
open Go.RowKit Go.Proofs.YtpmconnonleokaaW.PrintWords Go.Proofs.YtpmconnonleokaaW.PrintLast Go.Proofs.YtpmconnonleokaaW.PrintMore
attribute [local go_sem] max2_int min2_int max_two min_two max_three min_three max_four min_four   -- for this text's walks alone
set_option linter.unusedVariables false
set_option linter.unusedSimpArgs false
def impl_lastSlot.l0 : Nat → Int → Int → Int → Int → Int → Option (Int)
  | 0, _, _, _, _, _ => none
  | k + 1, x0, x1, x2, x3, x9 => if x9 ≤ x0 then (if (wrap64 ((wrap64 (x9 * x1)) - (wrap64 (x0 * (wrap64 (x2 - 1)))))) > x3 then (some (wrap64 (x9 - 1))) else (impl_lastSlot.l0 k x0 x1 x2 x3 (wrap64 (x9 + 1)))) else (some (wrap64 (x0 - 1)))
def impl_lastSlot.f (k : Nat) (a0 : Int) (a1 : Int) (a2 : Int) (a3 : Int) : Option (Int) := impl_lastSlot.l0 k a0 a1 a2 a3 1
theorem impl_lastSlot.mono_l : ∀ k, (∀ y0 y1 y2 y3 y4, LeO (impl_lastSlot.l0 k y0 y1 y2 y3 y4) (impl_lastSlot.l0 (k + 1) y0 y1 y2 y3 y4))
  | 0 => fun _ _ _ _ _ r h => by simp [impl_lastSlot.l0] at h
  | k + 1 => by
    have ih0 := impl_lastSlot.mono_l k
    · intro y0 y1 y2 y3 y4
      unfold impl_lastSlot.l0
      repeat' first | (with_reducible exact ih0 _ _ _ _ _) | (with_reducible exact LeO.refl _) | (with_reducible exact LeO.none _) | (with_reducible refine LeO.ite ?_ ?_) | (with_reducible refine LeO.bind ?_ (fun _ => ?_)) | exact ih0 _ _ _ _ _ | exact LeO.none _ | refine LeO.ite ?_ ?_ | refine LeO.bind ?_ (fun _ => ?_)
theorem impl_lastSlot.mono : ∀ a0 a1 a2 a3 k, LeO (impl_lastSlot.f k a0 a1 a2 a3) (impl_lastSlot.f (k + 1) a0 a1 a2 a3) := by
  intro a0 a1 a2 a3 k
  have ih0 := impl_lastSlot.mono_l k
  unfold impl_lastSlot.f
  repeat' first | (with_reducible exact ih0 _ _ _ _ _) | (with_reducible exact LeO.refl _) | (with_reducible exact LeO.none _) | (with_reducible refine LeO.ite ?_ ?_) | (with_reducible refine LeO.bind ?_ (fun _ => ?_)) | exact ih0 _ _ _ _ _ | exact LeO.none _ | refine LeO.ite ?_ ?_ | refine LeO.bind ?_ (fun _ => ?_)
set_option maxHeartbeats 8000000 in
set_option maxRecDepth 100000 in
theorem impl_lastSlot.calls (k : Nat) (a0 : Int) (a1 : Int) (a2 : Int) (a3 : Int) (r : Int) (w : World) (h : impl_lastSlot.f k a0 a1 a2 a3 = some r) :
    Calls Try.prog 58 #[.int .i64 a0, .int .i64 a1, .int .i64 a2, .int .i64 a3] w fun e w' => e = .returned (.int .i64 r) ∧ Drawn0 w w' := by
 have H : (impl_lastSlot.l0 k a0 a1 a2 a3 1) = some r := h
 clear h
 have H' := Aside0.mk H
 clear H
 go_enter Try.func58, Try.ntmps58
 go_wp2
 go_loopg [9] k (fun kq v9 w' => ∃ (x9_1 : Int), v9 = .int .i64 x9_1 ∧ Aside0 (impl_lastSlot.l0 kq a0 a1 a2 a3 x9_1 = some r) ∧ Aside0 (kq ≤ k) ∧ Drawn0 w w')
 case atStart => exact ⟨(1), zF, H', ⟨Nat.le_refl _⟩, by repeat (first | exact Drawn0.refl _ | apply Drawn0.step)⟩
 clear H'
 obtain ⟨x9_1, rfl, HA, HK1, ⟨m1, rfl⟩⟩ := hrel
 cases gk with
 | zero => exact absurd HA.out (by simp [impl_lastSlot.l0])
 | succ k1 =>
   have H := HA.out
   clear HA
   simp only [impl_lastSlot.l0] at H
   by_cases c5 : x9_1 ≤ a0
   · rw [if_pos c5] at H
     have c5b0 : decide (x9_1 ≤ a0) = true := decide_eq_true c5
     clear c5
     by_cases c6 : (wrap64 ((wrap64 (x9_1 * a1)) - (wrap64 (a0 * (wrap64 (a2 - 1)))))) > a3
     · rw [if_pos c6] at H
       have c6b0 : decide (a3 < (wrap64 ((wrap64 (x9_1 * a1)) - (wrap64 (a0 * (wrap64 (a2 - 1))))))) = true := decide_eq_true c6
       clear c6
       obtain rfl := Option.some.inj H
       go_wp2
       go_ret
       exact ⟨by first | rfl | (simp; done) | (simp [*]; done), by repeat (first | exact Drawn0.refl _ | apply Drawn0.step)⟩
     · rw [if_neg c6] at H
       have c6b0 : decide (a3 < (wrap64 ((wrap64 (x9_1 * a1)) - (wrap64 (a0 * (wrap64 (a2 - 1))))))) = false := decide_eq_false c6
       clear c6
       have H' := Aside0.mk H
       clear H
       go_wp2
       go_roundg k1
       case measure => have := HK1.out; omega
       case rel => exact ⟨(wrap64 (x9_1 + 1)), zF, H', ⟨by have := HK1.out; omega⟩, by repeat (first | exact Drawn0.refl _ | apply Drawn0.step)⟩
   · rw [if_neg c5] at H
     have c5b0 : decide (x9_1 ≤ a0) = false := decide_eq_false c5
     clear c5
     obtain rfl := Option.some.inj H
     go_wp2
     go_ret
     exact ⟨by first | rfl | (simp; done) | (simp [*]; done), by repeat (first | exact Drawn0.refl _ | apply Drawn0.step)⟩
end Go.Proofs.Ytpmconnonleokaa.P
end
section
namespace Go.Proofs.Ytpmconnonleokaa.P
open Go.RowKit Go.Proofs.YtpmconnonleokaaW.PrintWords Go.Proofs.YtpmconnonleokaaW.PrintLast Go.Proofs.YtpmconnonleokaaW.PrintMore
attribute [local go_sem] max2_int min2_int max_two min_two max_three min_three max_four min_four   -- for this text's walks alone
set_option linter.unusedVariables false
set_option linter.unusedSimpArgs false
mutual
def impl_deadlines.l0 : Nat → List Int → Int → List Int → Int → List Int → Int → Option (List Int × Bool)
  | 0, _, _, _, _, _, _ => none
  | k + 1, x0, x1, x6, x7, x8, x9 => if x9 ≤ x7 then (impl_deadlines.l1 k x0 x1 x6 x7 x8 x9 (-1) 0 x0 (x0.length : Int) 0) else (some (x8, true))
def impl_deadlines.l1 : Nat → List Int → Int → List Int → Int → List Int → Int → Int → Int → List Int → Int → Int → Option (List Int × Bool)
  | 0, _, _, _, _, _, _, _, _, _, _, _ => none
  | k + 1, x0, x1, x6, x7, x8, x9, x10, x11, x26, x27, x28 => if x28 < x27 then (if 0 ≤ x28 then (if x28 < (x26.length : Int) then (if x28 < (x6.length : Int) then (if (wrap64 ((rd x6 x28) + 1)) > (rd x26 x28) then (impl_deadlines.j2 k x0 x1 x6 x7 x8 x9 x10 x11 x28 (rd x26 x28) (wrap64 ((rd x6 x28) + 1)) x26 x27 x28 true) else (impl_deadlines.j2 k x0 x1 x6 x7 x8 x9 x10 x11 x28 (rd x26 x28) (wrap64 ((rd x6 x28) + 1)) x26 x27 x28 (decide ((wrap64 ((wrap64 (x7 * (wrap64 ((rd x6 x28) + 1)))) - (wrap64 (x9 * (rd x26 x28))))) > x1)))) else (none)) else (none)) else (none)) else (if x10 = (-1) then (some (([] : List Int), false)) else (if x11 < (wrap64 (x9 - 1)) then (some (([] : List Int), false)) else (if 0 ≤ x10 then (if x10 < (x6.length : Int) then (if x8.length < 17592186044416 then (impl_deadlines.l0 k x0 x1 (x6.set (x10 : Int).toNat (wrap64 ((rd x6 x10) + 1))) x7 (x8 ++ [x10]) (wrap64 (x9 + 1))) else (none)) else (none)) else (none))))
def impl_deadlines.j2 : Nat → List Int → Int → List Int → Int → List Int → Int → Int → Int → Int → Int → Int → List Int → Int → Int → Bool → Option (List Int × Bool)
  | 0, _, _, _, _, _, _, _, _, _, _, _, _, _, _, _ => none
  | k + 1, x0, x1, x6, x7, x8, x9, x10, x11, x12, x13, x14, x26, x27, x28, x51 => if x51 = true then (impl_deadlines.l1 k x0 x1 x6 x7 x8 x9 x10 x11 x26 x27 (wrap64 (x28 + 1))) else ((impl_lastSlot.f k x7 x13 x14 x1).bind fun t112 => (if x10 = (-1) then (impl_deadlines.l1 k x0 x1 x6 x7 x8 x9 x12 t112 x26 x27 (wrap64 (x28 + 1))) else (if t112 < x11 then (impl_deadlines.l1 k x0 x1 x6 x7 x8 x9 x12 t112 x26 x27 (wrap64 (x28 + 1))) else (impl_deadlines.l1 k x0 x1 x6 x7 x8 x9 x10 x11 x26 x27 (wrap64 (x28 + 1))))))
end
def impl_deadlines.f (k : Nat) (l0 : List Int) (a1 : Int) : Option (List Int × Bool) := if 0 ≤ (l0.length : Int) then (if ((l0.length : Int) : Int).toNat ≤ 35184372088832 then ((impl_total.f k l0).bind fun t104 => (impl_deadlines.l0 k l0 a1 (List.replicate ((l0.length : Int) : Int).toNat 0) t104 ([] : List Int) 1)) else (none)) else (none)
theorem impl_deadlines.mono_l : ∀ k, (∀ y0 y1 y2 y3 y4 y5, LeO (impl_deadlines.l0 k y0 y1 y2 y3 y4 y5) (impl_deadlines.l0 (k + 1) y0 y1 y2 y3 y4 y5)) ∧ (∀ y0 y1 y2 y3 y4 y5 y6 y7 y8 y9 y10, LeO (impl_deadlines.l1 k y0 y1 y2 y3 y4 y5 y6 y7 y8 y9 y10) (impl_deadlines.l1 (k + 1) y0 y1 y2 y3 y4 y5 y6 y7 y8 y9 y10)) ∧ (∀ y0 y1 y2 y3 y4 y5 y6 y7 y8 y9 y10 y11 y12 y13 y14, LeO (impl_deadlines.j2 k y0 y1 y2 y3 y4 y5 y6 y7 y8 y9 y10 y11 y12 y13 y14) (impl_deadlines.j2 (k + 1) y0 y1 y2 y3 y4 y5 y6 y7 y8 y9 y10 y11 y12 y13 y14))
  | 0 => ⟨fun _ _ _ _ _ _ r h => by simp [impl_deadlines.l0] at h, fun _ _ _ _ _ _ _ _ _ _ _ r h => by simp [impl_deadlines.l1] at h, fun _ _ _ _ _ _ _ _ _ _ _ _ _ _ _ r h => by simp [impl_deadlines.j2] at h⟩
  | k + 1 => by
    obtain ⟨ih0, ih1, ih2⟩ := impl_deadlines.mono_l k
    refine ⟨?_, ?_, ?_⟩ <;> intros <;> (first | unfold impl_deadlines.l0 | unfold impl_deadlines.l1 | unfold impl_deadlines.j2) <;> repeat' first | (with_reducible exact ih0 _ _ _ _ _ _) | (with_reducible exact ih1 _ _ _ _ _ _ _ _ _ _ _) | (with_reducible exact ih2 _ _ _ _ _ _ _ _ _ _ _ _ _ _ _) | (with_reducible exact impl_lastSlot.mono _ _ _ _ _) | (with_reducible exact impl_total.mono _ _) | (with_reducible exact LeO.refl _) | (with_reducible exact LeO.none _) | (with_reducible refine LeO.ite ?_ ?_) | (with_reducible refine LeO.bind ?_ (fun _ => ?_)) | exact ih0 _ _ _ _ _ _ | exact ih1 _ _ _ _ _ _ _ _ _ _ _ | exact ih2 _ _ _ _ _ _ _ _ _ _ _ _ _ _ _ | exact impl_lastSlot.mono _ _ _ _ _ | exact impl_total.mono _ _ | exact LeO.none _ | refine LeO.ite ?_ ?_ | refine LeO.bind ?_ (fun _ => ?_)
theorem impl_deadlines.mono : ∀ a0 a1 k, LeO (impl_deadlines.f k a0 a1) (impl_deadlines.f (k + 1) a0 a1) := by
  intro a0 a1 k
  obtain ⟨ih0, ih1, ih2⟩ := impl_deadlines.mono_l k
  unfold impl_deadlines.f
  repeat' first | (with_reducible exact ih0 _ _ _ _ _ _) | (with_reducible exact ih1 _ _ _ _ _ _ _ _ _ _ _) | (with_reducible exact ih2 _ _ _ _ _ _ _ _ _ _ _ _ _ _ _) | (with_reducible exact impl_lastSlot.mono _ _ _ _ _) | (with_reducible exact impl_total.mono _ _) | (with_reducible exact LeO.refl _) | (with_reducible exact LeO.none _) | (with_reducible refine LeO.ite ?_ ?_) | (with_reducible refine LeO.bind ?_ (fun _ => ?_)) | exact ih0 _ _ _ _ _ _ | exact ih1 _ _ _ _ _ _ _ _ _ _ _ | exact ih2 _ _ _ _ _ _ _ _ _ _ _ _ _ _ _ | exact impl_lastSlot.mono _ _ _ _ _ | exact impl_total.mono _ _ | exact LeO.none _ | refine LeO.ite ?_ ?_ | refine LeO.bind ?_ (fun _ => ?_)
set_option maxHeartbeats 8000000 in
set_option maxRecDepth 100000 in
theorem impl_deadlines.calls (k : Nat) (A0 : Option Addr) (c0 : Nat) (l0 : List Int) (a1 : Int) (r1 : List Int) (r2 : Bool) (w : World) (hr0 : Kd.C (Kd.int .i64) w A0 l0.length l0) (hc0 : l0.length ≤ c0) (h : impl_deadlines.f k l0 a1 = some (r1, r2)) :
    Calls Try.prog 27 #[.slice A0 l0.length c0, .int .i64 a1] w fun e w' => ∃ v0_ : Value, e = .returned (.tuple #[v0_, .bool r2]) ∧ Kd.R (Kd.int .i64) 2 w' w.heap.size (fun _ => True) v0_ r1 ∧ Below w.heap.size w w' := by
 have HR0 := Aside0.mk hr0
 have HC0 := Aside0.mk hc0
 clear hr0 hc0
 have HB := Aside0.mk (Below.refl w.heap.size w)
 have H : (if 0 ≤ (l0.length : Int) then (if ((l0.length : Int) : Int).toNat ≤ 35184372088832 then ((impl_total.f k l0).bind fun t104 => (impl_deadlines.l0 k l0 a1 (List.replicate ((l0.length : Int) : Int).toNat 0) t104 ([] : List Int) 1)) else (none)) else (none)) = some (r1, r2) := h
 clear h
 by_cases c3 : 0 ≤ (l0.length : Int)
 case neg => rw [if_neg c3] at H; exact absurd H (by simp)
 rw [if_pos c3] at H
 have c3b0 := eq_true c3
 have c3b1 : decide (0 ≤ (l0.length : Int)) = true := decide_eq_true c3
 clear c3
 by_cases c4 : ((l0.length : Int) : Int).toNat ≤ 35184372088832
 case neg => rw [if_neg c4] at H; exact absurd H (by simp)
 rw [if_pos c4] at H
 have c4b0 := eq_true c4
 have c4b1 : decide (((l0.length : Int) : Int).toNat ≤ 35184372088832) = true := decide_eq_true c4
 clear c4
 obtain ⟨y101, hy101⟩ : ∃ y_ : List Int, y_ = (List.replicate ((l0.length : Int) : Int).toNat 0) := ⟨_, rfl⟩
 replace H : ((impl_total.f k l0).bind fun t104 => (impl_deadlines.l0 k l0 a1 y101 t104 ([] : List Int) 1)) = some (r1, r2) := zH hy101
 have Ny101 := Aside0.mk hy101
 clear hy101
 replace H := Option.bind_eq_some_iff.mp H
 obtain ⟨t104, A50, H⟩ := H
 replace H : (impl_deadlines.l0 k l0 a1 y101 t104 ([] : List Int) 1) = some (r1, r2) := H
 have A5 := Aside0.mk A50
 clear A50
 have H' := Aside0.mk H
 clear H
 go_enter Try.func27, Try.ntmps27
 try go_wp2
 replace HB := Aside0.mk (below_drew1 HB.out)
 refine start_ (n := 7) (S := fun w' => True) (ds := []) #[false,false,false,false,false,false,false] zk rfl rfl trivial (fun hHeld => ?_)
 generalize w.drew = w6 at HB hHeld ⊢
 refine pure_ (i := 0) (N := some 16) (v := ?_) (a' := ?_) #[true,false,false,false,false,false,false] rfl rfl zk (fun _ _ _ h => h) (Or.inl ⟨by rfl, ?_⟩) ?_ ?_
 rotate_left; exact zp; rotate_left; exact zq
 refine pure_ (i := 1) (N := some 17) (v := ?_) (a' := ?_) #[true,true,false,false,false,false,false] rfl rfl zk (fun _ _ _ h => h) (Or.inl ⟨by rfl, ?_⟩) ?_ ?_
 rotate_left; exact zp; rotate_left; exact zq
 refine pure_ (i := 3) (N := some 19) (v := ?_) (a' := ?_) #[true,true,false,true,false,false,false] rfl rfl zk (fun _ _ _ h => h) (Or.inl ⟨by rfl, ?_⟩) ?_ ?_
 rotate_left; exact zp; rotate_left; exact zq
 refine join_ (σ := Value) 2 #[true,true,true,true,true,false,false] (fun s_ => [(18, s_), (20, .int .i64 t104)]) (fun s_ w' => (Kd.R (Kd.int .i64) 2 w' w.heap.size (fun _ => True) s_ y101) ∧ (Below w.heap.size w w')) ?_ ?_
 rotate_left
 ·
  intro hCont
  refine two_ (i := 2) (j := 4) (Ni := some 18) (Nj := some 20) #[true,true,true,true,false,false,false] #[true,true,false,true,true,false,false] rfl rfl rfl rfl zk (by decide) (by decide) (fun K hK => ?_) (fun K hK => ?_)
  ·
   skip
   refine Kd.R_make_step (Kd.int .i64) _ 2 (by rfl) (N := 18) rfl 24 _ _ rfl (l0.length : Int) rfl rfl Try.underlying24 (.int .i64 0) 8 info2 rfl (by decide) (by omega) 0 (ok := fun _ => True) (okp := fun _ => True) rfl (fun _ hk => hk) trivial (zD) (Nat.le_trans (Nat.mul_le_mul_right _ (zD : (l0.length : Int).toNat ≤ 35184372088832)) (by omega)) (Below.refl _ _) (Nat.le_refl _) ?_
   intro v102 w7 ho8 hb hg_ hnew_
   clear hg_ hnew_
   (first | rw [← Ny101.out] at ho8 | (simp only [Int.reduceToNat] at ho8; rw [← Ny101.out] at ho8))
   have n_ := y2 (Kd.R_lower ho8 (below_size (zB))) (below_step (zB) hb)
   clear HB
   obtain ⟨HO103, HB⟩ := n_
   clear hb ho8
   refine hK.out _ _ trivial (fun hHeld => ?_)
   clear hK K
   refine norm_ (a' := ?_) ?_ ?_
   rotate_left
   ·
    show Act.put _ (some 18) _ = _
    simp only [Act.put, List.setIfInBounds_toArray, List.set_cons_zero, List.set_cons_succ, i64_w, i32_w]
    rfl
   refine one_ (i := 4) (N := some 20) #[true,true,true,true,true,false,false] rfl rfl zk (by decide) (fun K hK => ?_)
   refine goes_ Try.func30 zk rfl #[.slice A0 l0.length c0] (by rfl) rfl rfl zA ?_
   with_reducible refine (impl_total.calls k _ _ l0 t104 _ ?side1 ?side2 A5.out).mono ?_
   (case side1 => exact zC (Kd.C_below HR0.out HB.out))
   (case side2 => exact HC0.out)
   rintro e w' ⟨rfl, ⟨nd, rfl⟩⟩
   refine ⟨_, rfl, ?_⟩
   refine hK.out _ _ trivial (fun hHeld => ?_)
   clear hK K
   refine norm_ (a' := ?_) ?_ ?_
   rotate_left
   ·
    show Act.put _ (some 20) _ = _
    simp only [Act.put, List.setIfInBounds_toArray, List.set_cons_zero, List.set_cons_succ, i64_w, i32_w]
    rfl
   exact norm_ (by simp only [putAll, Act.put, List.setIfInBounds_toArray, List.set_cons_zero, List.set_cons_succ]) (hCont (v102) _ ⟨(zR HO103.out), (zB)⟩)
  skip
  refine goes_ Try.func30 zk rfl #[.slice A0 l0.length c0] (by rfl) rfl rfl zA ?_
  with_reducible refine (impl_total.calls k _ _ l0 t104 _ ?side1 ?side2 A5.out).mono ?_
  (case side1 => exact zC (Kd.C_below HR0.out HB.out))
  (case side2 => exact HC0.out)
  rintro e w' ⟨rfl, ⟨nd, rfl⟩⟩
  refine ⟨_, rfl, ?_⟩
  refine hK.out _ _ trivial (fun hHeld => ?_)
  clear hK K
  refine norm_ (a' := ?_) ?_ ?_
  rotate_left
  ·
   show Act.put _ (some 20) _ = _
   simp only [Act.put, List.setIfInBounds_toArray, List.set_cons_zero, List.set_cons_succ, i64_w, i32_w]
   rfl
  refine one_ (i := 2) (N := some 18) #[true,true,true,true,true,false,false] rfl rfl zk (by decide) (fun K hK => ?_)
  refine Kd.R_make_step (Kd.int .i64) _ 2 (by rfl) (N := 18) rfl 24 _ _ rfl (l0.length : Int) rfl rfl Try.underlying24 (.int .i64 0) 8 info2 rfl (by decide) (by omega) 0 (ok := fun _ => True) (okp := fun _ => True) rfl (fun _ hk => hk) trivial (zD) (Nat.le_trans (Nat.mul_le_mul_right _ (zD : (l0.length : Int).toNat ≤ 35184372088832)) (by omega)) (Below.refl _ _) (Nat.le_refl _) ?_
  intro v102 w7 ho8 hb hg_ hnew_
  clear hg_ hnew_
  (first | rw [← Ny101.out] at ho8 | (simp only [Int.reduceToNat] at ho8; rw [← Ny101.out] at ho8))
  have n_ := y2 (Kd.R_lower ho8 (below_size (zB))) (below_step (zB) hb)
  clear HB
  obtain ⟨HO103, HB⟩ := n_
  clear hb ho8
  refine hK.out _ _ trivial (fun hHeld => ?_)
  clear hK K
  refine norm_ (a' := ?_) ?_ ?_
  rotate_left
  ·
   show Act.put _ (some 18) _ = _
   simp only [Act.put, List.setIfInBounds_toArray, List.set_cons_zero, List.set_cons_succ, i64_w, i32_w]
   rfl
  exact norm_ (by simp only [putAll, Act.put, List.setIfInBounds_toArray, List.set_cons_zero, List.set_cons_succ]) (hCont (v102) _ ⟨(zR HO103.out), (zB)⟩)
 rintro v102 w9 ⟨h0_, h1_⟩
 have n0_ : Aside0 (Kd.R (Kd.int .i64) 2 w9 w.heap.size (fun _ => True) v102 y101) := ⟨h0_⟩
 have n1_ : Aside0 (Below w.heap.size w w9) := ⟨h1_⟩
 clear HB
 clear h0_ h1_
 have HO103 := n0_
 have HB := n1_
 clear n0_ n1_
 have hHeld := trivial
 refine norm_ (a' := ?_) ?_ ?_
 rotate_left
 ·
  simp only [putAll, Act.put, List.setIfInBounds_toArray, List.set_cons_zero, List.set_cons_succ]
  rfl
 refine pure_ (i := 5) (N := some 6) (v := ?_) (a' := ?_) #[true,true,true,true,true,true,false] rfl rfl zk (fun _ _ _ h => h) (Or.inl ⟨by rfl, ?_⟩) ?_ ?_
 rotate_left; exact zp; rotate_left; exact zq
 refine pure_ (i := 6) (N := some 7) (v := ?_) (a' := ?_) #[true,true,true,true,true,true,true] rfl rfl zk (fun _ _ _ h => h) (Or.inl ⟨by rfl, ?_⟩) ?_ ?_
 rotate_left; exact zp; rotate_left; exact zq
 refine done_ zk ?_
 try go_wp2
 go_loopg [8, 9] k (fun kq v8 v9 w' => ∃ (x6_1 : List Int) (x8_1 : List Int) (x9_1 : Int), v9 = .int .i64 x9_1 ∧ Aside0 (impl_deadlines.l0 kq l0 a1 x6_1 t104 x8_1 x9_1 = some (r1, r2)) ∧ Aside0 (kq ≤ k) ∧ Aside0 (Kd.R (Kd.int .i64) 2 w' w.heap.size (fun k_ => some k_ ≠ (v8 : Value).ownBlock) v102 x6_1) ∧ Aside0 (Kd.R (Kd.int .i64) 2 w' w.heap.size (fun k_ => some k_ ≠ (v102 : Value).ownBlock) v8 x8_1) ∧ Aside0 (Below w.heap.size w w'))
 case atStart => exact ⟨(y101), (([] : List Int)), (1), zF, H', ⟨Nat.le_refl _⟩, ⟨by refine zR ?_; exact Kd.R_mono HO103.out (fun _ hk => (by simp [Value.ownBlock]))⟩, ⟨zN⟩, ⟨zB⟩⟩
 clear H'
 try clear c3
 try clear c3b0
 try clear c3b1
 try clear c4
 try clear c4b0
 try clear c4b1
 obtain ⟨x6_1, x8_1, x9_1, rfl, HA, HK1, HO_6, HO_8, HB⟩ := hrel
 cases gk with
 | zero => exact absurd HA.out (by simp [impl_deadlines.l0])
 | succ k1 =>
   have H := HA.out
   clear HA
   simp only [impl_deadlines.l0] at H
   by_cases c10 : x9_1 ≤ t104
   · rw [if_pos c10] at H
     have c10b0 : decide (x9_1 ≤ t104) = true := decide_eq_true c10
     clear c10
     have H' := Aside0.mk H
     clear H
     go_wp2
     go_loopg [10, 11, 28] k1 (fun kq v10 v11 v28 w' => ∃ (x10_2 : Int) (x11_2 : Int) (x28_2 : Int), v10 = .int .i64 x10_2 ∧ v11 = .int .i64 x11_2 ∧ v28 = .int .i64 x28_2 ∧ Aside0 (impl_deadlines.l1 kq l0 a1 x6_1 t104 x8_1 x9_1 x10_2 x11_2 l0 (l0.length : Int) x28_2 = some (r1, r2)) ∧ Aside0 (kq ≤ k1) ∧ Aside0 (Kd.R (Kd.int .i64) 2 w' w.heap.size (fun k_ => some k_ ≠ (u8 : Value).ownBlock) v102 x6_1) ∧ Aside0 (Kd.R (Kd.int .i64) 2 w' w.heap.size (fun k_ => some k_ ≠ (v102 : Value).ownBlock) u8 x8_1) ∧ Aside0 (Below w.heap.size w w'))
     case atStart => exact ⟨((-1)), (0), (0), zF, zF, zF, H', ⟨Nat.le_refl _⟩, ⟨zR HO_6.out⟩, ⟨zR HO_8.out⟩, ⟨zB⟩⟩
     case round =>
       clear H'
       try clear c3
       try clear c3b0
       try clear c3b1
       try clear c4
       try clear c4b0
       try clear c4b1
       try clear c10
       try clear c10b0
       obtain ⟨x10_2, x11_2, x28_2, rfl, rfl, rfl, HA, HK2, HO_6, HO_8, HB⟩ := hrel
       cases gk with
       | zero => exact absurd HA.out (by simp [impl_deadlines.l1])
       | succ k2 =>
         have H := HA.out
         clear HA
         simp only [impl_deadlines.l1] at H
         by_cases c11 : x28_2 < (l0.length : Int)
         · rw [if_pos c11] at H
           have c11b0 : decide (x28_2 < (l0.length : Int)) = true := decide_eq_true c11
           clear c11
           by_cases c12 : 0 ≤ x28_2
           · rw [if_pos c12] at H
             have c12b0 : decide (0 ≤ x28_2) = true := decide_eq_true c12
             clear c12
             by_cases c13 : x28_2 < (l0.length : Int)
             · rw [if_pos c13] at H
               have c13b0 : decide (x28_2 < (l0.length : Int)) = true := decide_eq_true c13
               clear c13
               by_cases c14 : x28_2 < (x6_1.length : Int)
               · rw [if_pos c14] at H
                 have c14b0 : decide (x28_2 < (x6_1.length : Int)) = true := decide_eq_true c14
                 clear c14
                 have HC15 := Aside0.mk H
                 clear H
                 have p110 : 0 ≤ (x28_2 : Int) := zD
                 have q110 : x28_2 < (l0.length : Int) := zD
                 obtain ⟨ad110, e110, hx110_0⟩ := Kd.at_int HR0.out x28_2 p110 q110
                 cases e110
                 replace hx110_0 := (HB.out.cell (World.block_lt_of_cell? w _ hx110_0)).trans hx110_0
                 replace p110 := eq_true p110
                 replace q110 := eq_true q110
                 obtain ⟨Ao16, co16, eo16⟩ := Kd.R_slice HO_6.out
                 subst eo16
                 have p111 : 0 ≤ (x28_2 : Int) := zD
                 have q111 : x28_2 < (x6_1.length : Int) := zD
                 obtain ⟨ad111, e111, hx111_0⟩ := Kd.at_int (Kd.R_reads' HO_6.out).2.2 x28_2 p111 q111
                 cases e111
                 replace p111 := eq_true p111
                 replace q111 := eq_true q111
                 go_upto_region 11 with (fail)
                 go_cut [51] (fun v51 wc => ∃ (kq : Nat) (x51_14 : Bool), v51 = .bool x51_14 ∧ Aside0 (impl_deadlines.j2 kq l0 a1 x6_1 t104 x8_1 x9_1 x10_2 x11_2 x28_2 (rd l0 x28_2) (wrap64 ((rd x6_1 x28_2) + 1)) l0 (l0.length : Int) x28_2 x51_14 = some (r1, r2)) ∧ Aside0 (kq ≤ k2) ∧ Aside0 (Kd.R (Kd.int .i64) 2 wc w.heap.size (fun k_ => some k_ ≠ (u8 : Value).ownBlock) (.slice (some ad111) x6_1.length co16) x6_1) ∧ Aside0 (Kd.R (Kd.int .i64) 2 wc w.heap.size (fun k_ => some k_ ≠ ((.slice (some ad111) x6_1.length co16) : Value).ownBlock) u8 x8_1) ∧ Aside0 (Below w.heap.size w wc))
                 case first =>
                   have H := HC15.out
                   clear HC15
                   by_cases c17 : (wrap64 ((rd x6_1 x28_2) + 1)) > (rd l0 x28_2)
                   · rw [if_pos c17] at H
                     have c17b0 : decide ((rd l0 x28_2) < (wrap64 ((rd x6_1 x28_2) + 1))) = true := decide_eq_true c17
                     clear c17
                     (first | rw [c17b0] | (simp only [i64_w, i32_w]; rw [c17b0]) | skip)
                     have H' := Aside0.mk H
                     clear H
                     go_wp2
                     go_meet
                     case rel => exact ⟨_, (true), zF, H', ⟨by have := HK1.out; have := HK2.out; first | omega | exact Nat.le_refl _⟩, ⟨zR HO_6.out⟩, ⟨zR HO_8.out⟩, ⟨zB⟩⟩
                   · rw [if_neg c17] at H
                     have c17b0 : decide ((rd l0 x28_2) < (wrap64 ((rd x6_1 x28_2) + 1))) = false := decide_eq_false c17
                     clear c17
                     (first | rw [c17b0] | (simp only [i64_w, i32_w]; rw [c17b0]) | skip)
                     have H' := Aside0.mk H
                     clear H
                     go_wp2
                     go_meet
                     case rel => exact ⟨_, (decide ((wrap64 ((wrap64 (t104 * (wrap64 ((rd x6_1 x28_2) + 1)))) - (wrap64 (x9_1 * (rd l0 x28_2))))) > a1)), zF, H', ⟨by have := HK1.out; have := HK2.out; first | omega | exact Nat.le_refl _⟩, ⟨zR HO_6.out⟩, ⟨zR HO_8.out⟩, ⟨zB⟩⟩
                 case rest =>
                   clear HC15
                   try clear c3
                   try clear c3b0
                   try clear c3b1
                   try clear c4
                   try clear c4b0
                   try clear c4b1
                   try clear c10
                   try clear c10b0
                   try clear c11
                   try clear c11b0
                   try clear c12
                   try clear c12b0
                   try clear c13
                   try clear c13b0
                   try clear c14
                   try clear c14b0
                   try clear hx110_0
                   try clear hx111_0
                   try clear p110
                   try clear p111
                   try clear q110
                   try clear q111
                   obtain ⟨kq, x51_14, rfl, HA, HJ14, HO_6, HO_8, HB⟩ := hcut
                   cases kq with
                   | zero => exact absurd HA.out (by simp [impl_deadlines.j2])
                   | succ kj14 =>
                     have H := HA.out
                     clear HA
                     simp only [impl_deadlines.j2] at H
                     by_cases c18 : x51_14 = true
                     · subst c18
                       have H1 : (impl_deadlines.l1 kj14 l0 a1 x6_1 t104 x8_1 x9_1 x10_2 x11_2 l0 (l0.length : Int) (wrap64 (x28_2 + 1))) = some (r1, r2) := by rw [if_pos rfl] at H; exact H
                       clear H
                       have H := H1
                       clear H1
                       have H' := Aside0.mk H
                       clear H
                       go_wp2
                       go_roundg kj14
                       case measure => have := HK1.out; have := HK2.out; have := HJ14.out; omega
                       case rel => exact ⟨(x10_2), (x11_2), (wrap64 (x28_2 + 1)), zF, zF, zF, H', ⟨by have := HK1.out; have := HK2.out; have := HJ14.out; omega⟩, ⟨zR HO_6.out⟩, ⟨zR HO_8.out⟩, ⟨zB⟩⟩
                     · replace c18 := Bool.eq_false_iff.mpr c18
                       subst c18
                       have H1 : ((impl_lastSlot.f kj14 t104 (rd l0 x28_2) (wrap64 ((rd x6_1 x28_2) + 1)) a1).bind fun t112 => (if x10_2 = (-1) then (impl_deadlines.l1 kj14 l0 a1 x6_1 t104 x8_1 x9_1 x28_2 t112 l0 (l0.length : Int) (wrap64 (x28_2 + 1))) else (if t112 < x11_2 then (impl_deadlines.l1 kj14 l0 a1 x6_1 t104 x8_1 x9_1 x28_2 t112 l0 (l0.length : Int) (wrap64 (x28_2 + 1))) else (impl_deadlines.l1 kj14 l0 a1 x6_1 t104 x8_1 x9_1 x10_2 x11_2 l0 (l0.length : Int) (wrap64 (x28_2 + 1)))))) = some (r1, r2) := by rw [if_neg (show ¬ (false = true) by decide)] at H; exact H
                       clear H
                       have H := H1
                       clear H1
                       replace H := Option.bind_eq_some_iff.mp H
                       obtain ⟨t112, A190, H⟩ := H
                       replace H : (if x10_2 = (-1) then (impl_deadlines.l1 kj14 l0 a1 x6_1 t104 x8_1 x9_1 x28_2 t112 l0 (l0.length : Int) (wrap64 (x28_2 + 1))) else (if t112 < x11_2 then (impl_deadlines.l1 kj14 l0 a1 x6_1 t104 x8_1 x9_1 x28_2 t112 l0 (l0.length : Int) (wrap64 (x28_2 + 1))) else (impl_deadlines.l1 kj14 l0 a1 x6_1 t104 x8_1 x9_1 x10_2 x11_2 l0 (l0.length : Int) (wrap64 (x28_2 + 1))))) = some (r1, r2) := H
                       have A19 := Aside0.mk A190
                       clear A190
                       by_cases c20 : x10_2 = (-1)
                       · rw [if_pos c20] at H
                         have c20b0 : (x10_2 == (-1)) = true := beq_iff_eq.mpr c20
                         have c20b1 : (x10_2 != (-1)) = false := bne_eq_false_iff_eq.mpr c20
                         clear c20
                         have H' := Aside0.mk H
                         clear H
                         go_wp2_with (first | ((with_reducible refine gate_callee (f := 58) rfl ?_); refine goesL_ (some 56) rfl rfl Try.func58 zk rfl #[.int .i64 t104, .int .i64 (rd l0 x28_2), .int .i64 (wrap64 ((rd x6_1 x28_2) + 1)), .int .i64 a1] rfl zA ?_; (with_reducible refine (impl_lastSlot.calls kj14 t104 (rd l0 x28_2) (wrap64 ((rd x6_1 x28_2) + 1)) a1 t112 _ A19.out).mono ?_); rintro e w' ⟨rfl, ⟨nd, rfl⟩⟩; refine ⟨_, rfl, ?_⟩))
                         go_roundg kj14
                         case measure => have := HK1.out; have := HK2.out; have := HJ14.out; omega
                         case rel => exact ⟨(x28_2), (t112), (wrap64 (x28_2 + 1)), zF, zF, zF, H', ⟨by have := HK1.out; have := HK2.out; have := HJ14.out; omega⟩, ⟨zR HO_6.out⟩, ⟨zR HO_8.out⟩, ⟨zB⟩⟩
                       · rw [if_neg c20] at H
                         have c20b0 : (x10_2 == (-1)) = false := beq_eq_false_iff_ne.mpr c20
                         have c20b1 : (x10_2 != (-1)) = true := bne_iff_ne.mpr c20
                         by_cases c21 : t112 < x11_2
                         · rw [if_pos c21] at H
                           have c21b0 : decide (t112 < x11_2) = true := decide_eq_true c21
                           clear c21
                           have H' := Aside0.mk H
                           clear H
                           go_wp2_with (first | ((with_reducible refine gate_callee (f := 58) rfl ?_); refine goesL_ (some 56) rfl rfl Try.func58 zk rfl #[.int .i64 t104, .int .i64 (rd l0 x28_2), .int .i64 (wrap64 ((rd x6_1 x28_2) + 1)), .int .i64 a1] rfl zA ?_; (with_reducible refine (impl_lastSlot.calls kj14 t104 (rd l0 x28_2) (wrap64 ((rd x6_1 x28_2) + 1)) a1 t112 _ A19.out).mono ?_); rintro e w' ⟨rfl, ⟨nd, rfl⟩⟩; refine ⟨_, rfl, ?_⟩))
                           go_roundg kj14
                           case measure => have := HK1.out; have := HK2.out; have := HJ14.out; omega
                           case rel => exact ⟨(x28_2), (t112), (wrap64 (x28_2 + 1)), zF, zF, zF, H', ⟨by have := HK1.out; have := HK2.out; have := HJ14.out; omega⟩, ⟨zR HO_6.out⟩, ⟨zR HO_8.out⟩, ⟨zB⟩⟩
                         · rw [if_neg c21] at H
                           have c21b0 : decide (t112 < x11_2) = false := decide_eq_false c21
                           clear c21
                           have H' := Aside0.mk H
                           clear H
                           go_wp2_with (first | ((with_reducible refine gate_callee (f := 58) rfl ?_); refine goesL_ (some 56) rfl rfl Try.func58 zk rfl #[.int .i64 t104, .int .i64 (rd l0 x28_2), .int .i64 (wrap64 ((rd x6_1 x28_2) + 1)), .int .i64 a1] rfl zA ?_; (with_reducible refine (impl_lastSlot.calls kj14 t104 (rd l0 x28_2) (wrap64 ((rd x6_1 x28_2) + 1)) a1 t112 _ A19.out).mono ?_); rintro e w' ⟨rfl, ⟨nd, rfl⟩⟩; refine ⟨_, rfl, ?_⟩))
                           go_roundg kj14
                           case measure => have := HK1.out; have := HK2.out; have := HJ14.out; omega
                           case rel => exact ⟨(x10_2), (x11_2), (wrap64 (x28_2 + 1)), zF, zF, zF, H', ⟨by have := HK1.out; have := HK2.out; have := HJ14.out; omega⟩, ⟨zR HO_6.out⟩, ⟨zR HO_8.out⟩, ⟨zB⟩⟩
               · rw [if_neg c14] at H
                 exact absurd H (by simp)
             · rw [if_neg c13] at H
               exact absurd H (by simp)
           · rw [if_neg c12] at H
             exact absurd H (by simp)
         · rw [if_neg c11] at H
           have c11b0 : decide (x28_2 < (l0.length : Int)) = false := decide_eq_false c11
           clear c11
           by_cases c22 : x10_2 = (-1)
           · rw [if_pos c22] at H
             have c22b0 : (x10_2 == (-1)) = true := beq_iff_eq.mpr c22
             have c22b1 : (x10_2 != (-1)) = false := bne_eq_false_iff_eq.mpr c22
             clear c22
             simp only [Option.some.injEq, Prod.mk.injEq] at H
             obtain ⟨rfl, rfl⟩ := H
             go_wp2
             go_ret2
             exact ⟨_, zE, zN, zB⟩
           · rw [if_neg c22] at H
             have c22b0 : (x10_2 == (-1)) = false := beq_eq_false_iff_ne.mpr c22
             have c22b1 : (x10_2 != (-1)) = true := bne_iff_ne.mpr c22
             by_cases c23 : x11_2 < (wrap64 (x9_1 - 1))
             · rw [if_pos c23] at H
               have c23b0 : decide (x11_2 < (wrap64 (x9_1 - 1))) = true := decide_eq_true c23
               clear c23
               simp only [Option.some.injEq, Prod.mk.injEq] at H
               obtain ⟨rfl, rfl⟩ := H
               go_wp2
               go_ret2
               exact ⟨_, zE, zN, zB⟩
             · rw [if_neg c23] at H
               have c23b0 : decide (x11_2 < (wrap64 (x9_1 - 1))) = false := decide_eq_false c23
               clear c23
               by_cases c24 : 0 ≤ x10_2
               · rw [if_pos c24] at H
                 have c24b0 : decide (0 ≤ x10_2) = true := decide_eq_true c24
                 clear c24
                 by_cases c25 : x10_2 < (x6_1.length : Int)
                 · rw [if_pos c25] at H
                   have c25b0 : decide (x10_2 < (x6_1.length : Int)) = true := decide_eq_true c25
                   clear c25
                   obtain ⟨y106, hy106⟩ : ∃ y_ : List Int, y_ = (x6_1.set (x10_2 : Int).toNat (wrap64 ((rd x6_1 x10_2) + 1))) := ⟨_, rfl⟩
                   replace H : (if x8_1.length < 17592186044416 then (impl_deadlines.l0 k2 l0 a1 y106 t104 (x8_1 ++ [x10_2]) (wrap64 (x9_1 + 1))) else (none)) = some (r1, r2) := zH hy106
                   have Ny106 := Aside0.mk hy106
                   clear hy106
                   by_cases c27 : x8_1.length < 17592186044416
                   · rw [if_pos c27] at H
                     have LMc27 := Aside0.mk c27
                     clear c27
                     obtain ⟨y107, hy107⟩ : ∃ y_ : List Int, y_ = (x8_1 ++ [x10_2]) := ⟨_, rfl⟩
                     replace H : (impl_deadlines.l0 k2 l0 a1 y106 t104 y107 (wrap64 (x9_1 + 1))) = some (r1, r2) := zH hy107
                     have Ny107 := Aside0.mk hy107
                     clear hy107
                     have H' := Aside0.mk H
                     clear H
                     obtain ⟨Ao28, co28, eo28⟩ := Kd.R_slice HO_6.out
                     subst eo28
                     have p105 : 0 ≤ (x10_2 : Int) := zD
                     have q105 : x10_2 < (x6_1.length : Int) := zD
                     obtain ⟨ad105, e105, hx105_0⟩ := Kd.at_int (Kd.R_reads' HO_6.out).2.2 x10_2 p105 q105
                     cases e105
                     replace p105 := eq_true p105
                     replace q105 := eq_true q105
                     have p26 : 0 ≤ (x10_2 : Int) := zD
                     have q26 : (x10_2 : Int) < ((x6_1.length : Int) : Int) := zD
                     obtain ⟨go26, co26, eo26, gb26, gl26, cl26, HG26⟩ := Kd.R_form HO_6.out (by omega)
                     (first | cases eo26 | (injection eo26 with ea_ en_ ec_; (first | subst ea_ | (injection ea_ with ea_; subst ea_)); subst ec_; clear en_))
                     have GB26 := Aside0.mk gb26
                     have GG26 := Aside0.mk HG26
                     clear gb26 gl26 HG26
                     (first | simp only [add_plain] at hx105_0 | skip)
                     obtain ⟨hx26_0, hf26_0⟩ := Kd.R_celln 0 HO_6.out (x10_2 : Int) p26 q26
                     replace p26 := eq_true p26
                     replace q26 := eq_true q26
                     have HP29 := Kd.R_putg HO_6.out (x10_2 : Int) (wrap64 ((rd x6_1 x10_2) + 1))
                     go_wp2_with (first | ((with_reducible refine gate_store (t := 2) (p := 80) rfl ?_); refine store_event (t := 2) (p := 80) (v := ?vo_w30) (w1 := (wr.setCell ⟨go26, (x10_2 : Int).toNat, none⟩ (.int .i64 (wrap64 ((rd x6_1 x10_2) + 1))))) ?hg ?ho ?hn ?hr ?_; (case ho => rfl); (case hg => rfl); (case hn => rfl); (case hr => first | (go_simp; done) | (go_simp; rfl)); intro w30 hw; have hg : wr.grownBy w30 (some go26) := (by rw [hw]; exact HP29.2); have hp_ : Kd.R (Kd.int .i64) 2 w30 w.heap.size (fun k_ => some k_ ≠ (u8 : Value).ownBlock) (.slice (some ⟨go26, 0, none⟩) x6_1.length co28) y106 := (by rw [hw, Ny106.out]; exact HP29.1); clear HP29; have n_ := y3 (hp_) (Kd.R_after (v := (.slice (some ⟨go26, 0, none⟩) x6_1.length co28)) (v1 := (.slice (some ⟨go26, 0, none⟩) x6_1.length co28)) (ok := (fun _ => True)) (by refine zR ?_; exact Kd.R_mono HO_8.out (fun _ hk => ⟨trivial, hk⟩)) hg (.inl rfl)) ((by rw [hw]; exact below_set (HB.out) GB26.out : Below w.heap.size w w30)); clear HO_6 HO_8 HB; obtain ⟨HO_6, HO_8, HB⟩ := n_; clear hg hw hp_) | ((with_reducible refine gate_builtin (b := .append) (xs := #[.tmp 81, .tmp 83]) rfl ?_); at_builtin; refine Kd.R_append (Kd.int .i64) (w0 := w) w.heap.size rfl (.tmp 81) (.tmp 83) 24 2 (.int .i64 0) 8 rfl Try.underlying24 info2 rfl (by decide) (by omega) u8 x8_1 x10_2 [.int .i64 x10_2] (fun k_ => some k_ ≠ (.slice (some ⟨go26, 0, none⟩) x6_1.length co28 : Value).ownBlock) (fun _ => False) rfl rfl ?aP (fun _ hk => hk.elim) ?aF ?aO ?aB ?aS ?aL ?_; (case aP => exact rfl); (case aB => exact (zB)); (case aF => exact (fun k_ hk => Kd.fresh' (Kd.R_lt (zR HO_6.out)) k_ hk)); (case aO => exact (by refine zR ?_; exact Kd.R_mono HO_8.out (fun _ hk => hk.2))); (case aS => exact (below_size (zB))); (case aL => have := LMc27.out; omega); intro v108 w31 ho hb hg hat; rw [← Ny107.out] at ho; have n_ := y3 (Kd.R_after (ok := (fun _ => True)) (by refine zR ?_; exact Kd.R_mono HO_6.out (fun _ hk => ⟨trivial, hk⟩)) hg hat) (hb) (ho); clear HO_6 HB HO_8; obtain ⟨HO_6, HB, HO109⟩ := n_; clear ho hb hg hat))
                     go_roundg k2
                     case measure => have := HK1.out; have := HK2.out; omega
                     case rel => exact ⟨(y106), (y107), (wrap64 (x9_1 + 1)), zF, H', ⟨by have := HK1.out; have := HK2.out; omega⟩, ⟨by refine zR ?_; exact Kd.R_mono HO_6.out (fun _ hk => hk.2)⟩, ⟨zR HO109.out⟩, ⟨zB⟩⟩
                   · rw [if_neg c27] at H
                     exact absurd H (by simp)
                 · rw [if_neg c25] at H
                   exact absurd H (by simp)
               · rw [if_neg c24] at H
                 exact absurd H (by simp)
   · rw [if_neg c10] at H
     have c10b0 : decide (x9_1 ≤ t104) = false := decide_eq_false c10
     clear c10
     simp only [Option.some.injEq, Prod.mk.injEq] at H
     obtain ⟨rfl, rfl⟩ := H
     go_wp2
     go_ret2
     exact ⟨_, zE, by refine zR ?_; exact Kd.R_mono HO_8.out (fun _ hk => trivial), zB⟩
end Go.Proofs.Ytpmconnonleokaa.P
end
section
namespace Go.Proofs.Ytpmconnonleokaa.P
open Go.RowKit Go.Proofs.YtpmconnonleokaaW.PrintWords Go.Proofs.YtpmconnonleokaaW.PrintLast Go.Proofs.YtpmconnonleokaaW.PrintMore
attribute [local go_sem] max2_int min2_int max_two min_two max_three min_three max_four min_four   -- for this text's walks alone
set_option linter.unusedVariables false
set_option linter.unusedSimpArgs false
def impl_LeastDifference.l0 : Nat → List Int → Int → Option (List Int × Int × Int)
  | 0, _, _ => none
  | k + 1, x0, x5 => (impl_deadlines.f k x0 x5).bind fun bt102 => (if bt102.2 = true then (some (bt102.1, x5, 0)) else (impl_LeastDifference.l0 k x0 (wrap64 (x5 + 1))))
def impl_LeastDifference.f (k : Nat) (l0 : List Int) : Option (List Int × Int × Int) := (impl_areShares.f k l0).bind fun t101 => (if t101 = true then (impl_LeastDifference.l0 k l0 0) else (some (([] : List Int), 0, 2)))
theorem impl_LeastDifference.mono_l : ∀ k, (∀ y0 y1, LeO (impl_LeastDifference.l0 k y0 y1) (impl_LeastDifference.l0 (k + 1) y0 y1))
  | 0 => fun _ _ r h => by simp [impl_LeastDifference.l0] at h
  | k + 1 => by
    have ih0 := impl_LeastDifference.mono_l k
    · intro y0 y1
      unfold impl_LeastDifference.l0
      repeat' first | (with_reducible exact ih0 _ _) | (with_reducible exact impl_areShares.mono _ _) | (with_reducible exact impl_deadlines.mono _ _ _) | (with_reducible exact LeO.refl _) | (with_reducible exact LeO.none _) | (with_reducible refine LeO.ite ?_ ?_) | (with_reducible refine LeO.bind ?_ (fun _ => ?_)) | exact ih0 _ _ | exact impl_areShares.mono _ _ | exact impl_deadlines.mono _ _ _ | exact LeO.none _ | refine LeO.ite ?_ ?_ | refine LeO.bind ?_ (fun _ => ?_)
theorem impl_LeastDifference.mono : ∀ a0 k, LeO (impl_LeastDifference.f k a0) (impl_LeastDifference.f (k + 1) a0) := by
  intro a0 k
  have ih0 := impl_LeastDifference.mono_l k
  unfold impl_LeastDifference.f
  repeat' first | (with_reducible exact ih0 _ _) | (with_reducible exact impl_areShares.mono _ _) | (with_reducible exact impl_deadlines.mono _ _ _) | (with_reducible exact LeO.refl _) | (with_reducible exact LeO.none _) | (with_reducible refine LeO.ite ?_ ?_) | (with_reducible refine LeO.bind ?_ (fun _ => ?_)) | exact ih0 _ _ | exact impl_areShares.mono _ _ | exact impl_deadlines.mono _ _ _ | exact LeO.none _ | refine LeO.ite ?_ ?_ | refine LeO.bind ?_ (fun _ => ?_)
set_option maxHeartbeats 8000000 in
set_option maxRecDepth 100000 in
theorem impl_LeastDifference.calls (k : Nat) (A0 : Option Addr) (c0 : Nat) (l0 : List Int) (r1 : List Int) (r2 : Int) (r3 : Int) (w : World) (hr0 : Kd.C (Kd.int .i64) w A0 l0.length l0) (hc0 : l0.length ≤ c0) (h : impl_LeastDifference.f k l0 = some (r1, r2, r3)) :
    Calls Try.prog 6 #[.slice A0 l0.length c0] w fun e w' => ∃ v0_ : Value, e = .returned (.tuple #[v0_, .int .i64 r2, .int .i64 r3]) ∧ Kd.R (Kd.int .i64) 2 w' w.heap.size (fun _ => True) v0_ r1 ∧ Below w.heap.size w w' := by
 have HR0 := Aside0.mk hr0
 have HC0 := Aside0.mk hc0
 clear hr0 hc0
 have HB := Aside0.mk (Below.refl w.heap.size w)
 have H : ((impl_areShares.f k l0).bind fun t101 => (if t101 = true then (impl_LeastDifference.l0 k l0 0) else (some (([] : List Int), 0, 2)))) = some (r1, r2, r3) := h
 clear h
 replace H := Option.bind_eq_some_iff.mp H
 obtain ⟨t101, A20, H⟩ := H
 replace H : (if t101 = true then (impl_LeastDifference.l0 k l0 0) else (some (([] : List Int), 0, 2))) = some (r1, r2, r3) := H
 have A2 := Aside0.mk A20
 clear A20
 by_cases c3 : t101 = true
 ·
  subst c3
  have H1 : (impl_LeastDifference.l0 k l0 0) = some (r1, r2, r3) := by rw [if_pos rfl] at H; exact H
  clear H
  have H := H1
  clear H1
  have H' := Aside0.mk H
  clear H
  go_enter Try.func6, Try.ntmps6
  go_wp2_with (first | ((with_reducible refine gate_callee (f := 26) rfl ?_); refine goesL_ (some 9) rfl rfl Try.func26 zk rfl #[.slice A0 l0.length c0] rfl zA ?_; (with_reducible refine (impl_areShares.calls k _ _ l0 true _ ?side1 ?side2 A2.out).mono ?_); (case side1 => exact zC HR0.out); (case side2 => exact HC0.out); rintro e w4 ⟨rfl, hb⟩; refine ⟨_, rfl, ?_⟩; replace HB := Aside0.mk (below_step (zB) hb); (try clear hb); (try clear hb2); (try clear hk); (try clear hi)))
  go_loopg [5] k (fun kq v5 w' => ∃ (x5_1 : Int), v5 = .int .i64 x5_1 ∧ Aside0 (impl_LeastDifference.l0 kq l0 x5_1 = some (r1, r2, r3)) ∧ Aside0 (kq ≤ k) ∧ Aside0 (Below w.heap.size w w'))
  case atStart => exact ⟨(0), zF, H', ⟨Nat.le_refl _⟩, ⟨zB⟩⟩
  clear H'
  try clear c3
  obtain ⟨x5_1, rfl, HA, HK1, HB⟩ := hrel
  cases gk with
  | zero => exact absurd HA.out (by simp [impl_LeastDifference.l0])
  | succ k1 =>
    have H := HA.out
    clear HA
    simp only [impl_LeastDifference.l0] at H
    replace H := Option.bind_eq_some_iff.mp H
    obtain ⟨⟨t102, t103⟩, A50, H⟩ := H
    replace H : (if t103 = true then (some (t102, x5_1, 0)) else (impl_LeastDifference.l0 k1 l0 (wrap64 (x5_1 + 1)))) = some (r1, r2, r3) := H
    have A5 := Aside0.mk A50
    clear A50
    by_cases c6 : t103 = true
    · subst c6
      have H1 : (some (t102, x5_1, 0)) = some (r1, r2, r3) := by rw [if_pos rfl] at H; exact H
      clear H
      have H := H1
      clear H1
      simp only [Option.some.injEq, Prod.mk.injEq] at H
      obtain ⟨rfl, rfl, rfl⟩ := H
      go_wp2_with (first | ((with_reducible refine gate_callee (f := 27) rfl ?_); refine goesL_ (some 16) rfl rfl Try.func27 zk rfl #[.slice A0 l0.length c0, .int .i64 x5_1] rfl zA ?_; (with_reducible refine (impl_deadlines.calls k1 _ _ l0 x5_1 t102 true _ ?side1 ?side2 A5.out).mono ?_); (case side1 => exact zC (Kd.C_below HR0.out HB.out)); (case side2 => exact HC0.out); rintro e w7 ⟨v104, rfl, ho0, hb⟩; refine ⟨_, rfl, ?_⟩; have n_ := y2 (Kd.R_lower ho0 (below_size (zB))) (below_step (zB) hb); clear HB; obtain ⟨HO105, HB⟩ := n_; (try clear hb); (try clear hb2); (try clear hk); (try clear hi); (try clear ho0)))
      go_ret3
      exact ⟨_, zE, zR HO105.out, zB⟩
    · replace c6 := Bool.eq_false_iff.mpr c6
      subst c6
      have H1 : (impl_LeastDifference.l0 k1 l0 (wrap64 (x5_1 + 1))) = some (r1, r2, r3) := by rw [if_neg (show ¬ (false = true) by decide)] at H; exact H
      clear H
      have H := H1
      clear H1
      have H' := Aside0.mk H
      clear H
      go_wp2_with (first | ((with_reducible refine gate_callee (f := 27) rfl ?_); refine goesL_ (some 16) rfl rfl Try.func27 zk rfl #[.slice A0 l0.length c0, .int .i64 x5_1] rfl zA ?_; (with_reducible refine (impl_deadlines.calls k1 _ _ l0 x5_1 t102 false _ ?side1 ?side2 A5.out).mono ?_); (case side1 => exact zC (Kd.C_below HR0.out HB.out)); (case side2 => exact HC0.out); rintro e w8 ⟨v104, rfl, ho0, hb⟩; refine ⟨_, rfl, ?_⟩; have n_ := y2 (Kd.R_lower ho0 (below_size (zB))) (below_step (zB) hb); clear HB; obtain ⟨HO105, HB⟩ := n_; (try clear hb); (try clear hb2); (try clear hk); (try clear hi); (try clear ho0)))
      go_roundg k1
      case measure => have := HK1.out; omega
      case rel => exact ⟨(wrap64 (x5_1 + 1)), zF, H', ⟨by have := HK1.out; omega⟩, ⟨zB⟩⟩
 replace c3 := Bool.eq_false_iff.mpr c3
 subst c3
 have H1 : (some (([] : List Int), 0, 2)) = some (r1, r2, r3) := by rw [if_neg (show ¬ (false = true) by decide)] at H; exact H
 clear H
 have H := H1
 clear H1
 simp only [Option.some.injEq, Prod.mk.injEq] at H
 obtain ⟨rfl, rfl, rfl⟩ := H
 go_enter Try.func6, Try.ntmps6
 go_wp2_with (first | ((with_reducible refine gate_callee (f := 26) rfl ?_); refine goesL_ (some 9) rfl rfl Try.func26 zk rfl #[.slice A0 l0.length c0] rfl zA ?_; (with_reducible refine (impl_areShares.calls k _ _ l0 false _ ?side1 ?side2 A2.out).mono ?_); (case side1 => exact zC HR0.out); (case side2 => exact HC0.out); rintro e w9 ⟨rfl, hb⟩; refine ⟨_, rfl, ?_⟩; replace HB := Aside0.mk (below_step (zB) hb); (try clear hb); (try clear hb2); (try clear hk); (try clear hi)))
 go_ret3
 exact ⟨_, zE, zN, zB⟩
end Go.Proofs.Ytpmconnonleokaa.P
end
section
namespace Go.Proofs.Ytpmconnonleokaa.P
open Go.RowKit Go.Proofs.YtpmconnonleokaaW.PrintWords Go.Proofs.YtpmconnonleokaaW.PrintLast Go.Proofs.YtpmconnonleokaaW.PrintMore
attribute [local go_sem] max2_int min2_int max_two min_two max_three min_three max_four min_four   -- for this text's walks alone
set_option linter.unusedVariables false
set_option linter.unusedSimpArgs false
def spec_l01In.f (a0 : Int) (a1 : Int) (a2 : Int) : Option (Bool) := if a0 ≥ a1 then (some (decide (a0 ≤ a2))) else (some false)
set_option maxHeartbeats 8000000 in
set_option maxRecDepth 100000 in
theorem spec_l01In.calls (a0 : Int) (a1 : Int) (a2 : Int) (r : Bool) (w : World) (h : spec_l01In.f a0 a1 a2 = some r) :
    Calls Try.prog 43 #[.int .i64 a0, .int .i64 a1, .int .i64 a2] w fun e w' => e = .returned (.bool r) ∧ Drawn0 w w' := by
 have H : (if a0 ≥ a1 then (some (decide (a0 ≤ a2))) else (some false)) = some r := h
 clear h
 by_cases c4 : a0 ≥ a1
 ·
  rw [if_pos c4] at H
  have c4b0 : decide (a1 ≤ a0) = true := decide_eq_true c4
  clear c4
  obtain rfl := Option.some.inj H
  go_enter Try.func43, Try.ntmps43
  go_wp2
  go_ret
  exact ⟨by first | rfl | (simp; done) | (simp [*]; done), by repeat (first | exact Drawn0.refl _ | apply Drawn0.step)⟩
 rw [if_neg c4] at H
 have c4b0 : decide (a1 ≤ a0) = false := decide_eq_false c4
 clear c4
 obtain rfl := Option.some.inj H
 go_enter Try.func43, Try.ntmps43
 go_wp2
 go_ret
 exact ⟨by first | rfl | (simp; done) | (simp [*]; done), by repeat (first | exact Drawn0.refl _ | apply Drawn0.step)⟩
end Go.Proofs.Ytpmconnonleokaa.P
end
section
namespace Go.Proofs.Ytpmconnonleokaa.P
open Go.RowKit Go.Proofs.YtpmconnonleokaaW.PrintWords Go.Proofs.YtpmconnonleokaaW.PrintLast Go.Proofs.YtpmconnonleokaaW.PrintMore
attribute [local go_sem] max2_int min2_int max_two min_two max_three min_three max_four min_four   -- for this text's walks alone
set_option linter.unusedVariables false
set_option linter.unusedSimpArgs false
def spec_l07Sum.l0 : Nat → List Int → Int → Int → Option (Int)
  | 0, _, _, _ => none
  | k + 1, x0, x3, x4 => if x4 < (x0.length : Int) then (if 0 ≤ x4 then ((spec_l01In.f (rd x0 x4) 1 60).bind fun t102 => (if t102 = true then (spec_l07Sum.l0 k x0 (wrap64 (x3 + (rd x0 x4))) (wrap64 (x4 + 1))) else (some 0))) else (none)) else (if (x0.length : Int) > 8 then (some 0) else (if x3 > 60 then (some 0) else (some x3)))
def spec_l07Sum.f (k : Nat) (l0 : List Int) : Option (Int) := spec_l07Sum.l0 k l0 0 0
theorem spec_l07Sum.mono_l : ∀ k, (∀ y0 y1 y2, LeO (spec_l07Sum.l0 k y0 y1 y2) (spec_l07Sum.l0 (k + 1) y0 y1 y2))
  | 0 => fun _ _ _ r h => by simp [spec_l07Sum.l0] at h
  | k + 1 => by
    have ih0 := spec_l07Sum.mono_l k
    · intro y0 y1 y2
      unfold spec_l07Sum.l0
      repeat' first | (with_reducible exact ih0 _ _ _) | (with_reducible exact LeO.refl _) | (with_reducible exact LeO.none _) | (with_reducible refine LeO.ite ?_ ?_) | (with_reducible refine LeO.bind ?_ (fun _ => ?_)) | exact ih0 _ _ _ | exact LeO.none _ | refine LeO.ite ?_ ?_ | refine LeO.bind ?_ (fun _ => ?_)
theorem spec_l07Sum.mono : ∀ a0 k, LeO (spec_l07Sum.f k a0) (spec_l07Sum.f (k + 1) a0) := by
  intro a0 k
  have ih0 := spec_l07Sum.mono_l k
  unfold spec_l07Sum.f
  repeat' first | (with_reducible exact ih0 _ _ _) | (with_reducible exact LeO.refl _) | (with_reducible exact LeO.none _) | (with_reducible refine LeO.ite ?_ ?_) | (with_reducible refine LeO.bind ?_ (fun _ => ?_)) | exact ih0 _ _ _ | exact LeO.none _ | refine LeO.ite ?_ ?_ | refine LeO.bind ?_ (fun _ => ?_)
set_option maxHeartbeats 8000000 in
set_option maxRecDepth 100000 in
theorem spec_l07Sum.calls (k : Nat) (A0 : Option Addr) (c0 : Nat) (l0 : List Int) (r : Int) (w : World) (hr0 : Kd.C (Kd.int .i64) w A0 l0.length l0) (hc0 : l0.length ≤ c0) (h : spec_l07Sum.f k l0 = some r) :
    Calls Try.prog 28 #[.slice A0 l0.length c0] w fun e w' => e = .returned (.int .i64 r) ∧ Drawn0 w w' := by
 have HR0 := Aside0.mk hr0
 have HC0 := Aside0.mk hc0
 clear hr0 hc0
 have H : (spec_l07Sum.l0 k l0 0 0) = some r := h
 clear h
 have H' := Aside0.mk H
 clear H
 go_enter Try.func28, Try.ntmps28
 go_wp2
 go_loopg [3, 4] k (fun kq v3 v4 w' => ∃ (x3_1 : Int) (x4_1 : Int), v3 = .int .i64 x3_1 ∧ v4 = .int .i64 x4_1 ∧ Aside0 (spec_l07Sum.l0 kq l0 x3_1 x4_1 = some r) ∧ Aside0 (kq ≤ k) ∧ Drawn0 w w')
 case atStart => exact ⟨(0), (0), zF, zF, H', ⟨Nat.le_refl _⟩, by repeat (first | exact Drawn0.refl _ | apply Drawn0.step)⟩
 clear H'
 obtain ⟨x3_1, x4_1, rfl, rfl, HA, HK1, ⟨m1, rfl⟩⟩ := hrel
 cases gk with
 | zero => exact absurd HA.out (by simp [spec_l07Sum.l0])
 | succ k1 =>
   have H := HA.out
   clear HA
   simp only [spec_l07Sum.l0] at H
   by_cases c2 : x4_1 < (l0.length : Int)
   · rw [if_pos c2] at H
     have c2b0 : decide (x4_1 < (l0.length : Int)) = true := decide_eq_true c2
     clear c2
     by_cases c3 : 0 ≤ x4_1
     · rw [if_pos c3] at H
       have c3b0 : decide (0 ≤ x4_1) = true := decide_eq_true c3
       clear c3
       replace H := Option.bind_eq_some_iff.mp H
       obtain ⟨t102, A40, H⟩ := H
       replace H : (if t102 = true then (spec_l07Sum.l0 k1 l0 (wrap64 (x3_1 + (rd l0 x4_1))) (wrap64 (x4_1 + 1))) else (some 0)) = some r := H
       have A4 := Aside0.mk A40
       clear A40
       by_cases c5 : t102 = true
       · subst c5
         have H1 : (spec_l07Sum.l0 k1 l0 (wrap64 (x3_1 + (rd l0 x4_1))) (wrap64 (x4_1 + 1))) = some r := by rw [if_pos rfl] at H; exact H
         clear H
         have H := H1
         clear H1
         have H' := Aside0.mk H
         clear H
         have p101 : 0 ≤ (x4_1 : Int) := zD
         have q101 : x4_1 < (l0.length : Int) := zD
         obtain ⟨ad101, e101, hx101_0⟩ := Kd.at_int HR0.out x4_1 p101 q101
         cases e101
         replace p101 := eq_true p101
         replace q101 := eq_true q101
         go_wp2_with (first | ((with_reducible refine gate_callee (f := 43) rfl ?_); refine goesL_ (some 15) rfl rfl Try.func43 zk rfl #[.int .i64 (rd l0 x4_1), .int .i64 1, .int .i64 60] rfl zA ?_; (with_reducible refine (spec_l01In.calls (rd l0 x4_1) 1 60 true _ A4.out).mono ?_); rintro e w' ⟨rfl, ⟨nd, rfl⟩⟩; refine ⟨_, rfl, ?_⟩; have p103 : 0 ≤ (x4_1 : Int) := zD; have q103 : x4_1 < (l0.length : Int) := zD; obtain ⟨ad103, e103, hx103_0⟩ := Kd.at_int HR0.out x4_1 p103 q103; obtain rfl : ad101 = ad103 := (by injection e103); replace p103 := eq_true p103; replace q103 := eq_true q103))
         go_roundg k1
         case measure => have := HK1.out; omega
         case rel => exact ⟨(wrap64 (x3_1 + (rd l0 x4_1))), (wrap64 (x4_1 + 1)), zF, zF, H', ⟨by have := HK1.out; omega⟩, by repeat (first | exact Drawn0.refl _ | apply Drawn0.step)⟩
       · replace c5 := Bool.eq_false_iff.mpr c5
         subst c5
         have H1 : (some 0) = some r := by rw [if_neg (show ¬ (false = true) by decide)] at H; exact H
         clear H
         have H := H1
         clear H1
         obtain rfl := Option.some.inj H
         have p101 : 0 ≤ (x4_1 : Int) := zD
         have q101 : x4_1 < (l0.length : Int) := zD
         obtain ⟨ad101, e101, hx101_0⟩ := Kd.at_int HR0.out x4_1 p101 q101
         cases e101
         replace p101 := eq_true p101
         replace q101 := eq_true q101
         go_wp2_with (first | ((with_reducible refine gate_callee (f := 43) rfl ?_); refine goesL_ (some 15) rfl rfl Try.func43 zk rfl #[.int .i64 (rd l0 x4_1), .int .i64 1, .int .i64 60] rfl zA ?_; (with_reducible refine (spec_l01In.calls (rd l0 x4_1) 1 60 false _ A4.out).mono ?_); rintro e w' ⟨rfl, ⟨nd, rfl⟩⟩; refine ⟨_, rfl, ?_⟩))
         go_ret
         exact ⟨by first | rfl | (simp; done) | (simp [*]; done), by repeat (first | exact Drawn0.refl _ | apply Drawn0.step)⟩
     · rw [if_neg c3] at H
       exact absurd H (by simp)
   · rw [if_neg c2] at H
     have c2b0 : decide (x4_1 < (l0.length : Int)) = false := decide_eq_false c2
     clear c2
     by_cases c6 : (l0.length : Int) > 8
     · rw [if_pos c6] at H
       have c6b0 : decide (8 < (l0.length : Int)) = true := decide_eq_true c6
       have c6b1 : decide (8 < l0.length) = true := decide_eq_true (by omega)
       clear c6
       obtain rfl := Option.some.inj H
       go_wp2
       go_ret
       exact ⟨by first | rfl | (simp; done) | (simp [*]; done), by repeat (first | exact Drawn0.refl _ | apply Drawn0.step)⟩
     · rw [if_neg c6] at H
       have c6b0 : decide (8 < (l0.length : Int)) = false := decide_eq_false c6
       have c6b1 : decide (8 < l0.length) = false := decide_eq_false (by omega)
       clear c6
       by_cases c7 : x3_1 > 60
       · rw [if_pos c7] at H
         have c7b0 : decide (60 < x3_1) = true := decide_eq_true c7
         clear c7
         obtain rfl := Option.some.inj H
         go_wp2
         go_ret
         exact ⟨by first | rfl | (simp; done) | (simp [*]; done), by repeat (first | exact Drawn0.refl _ | apply Drawn0.step)⟩
       · rw [if_neg c7] at H
         have c7b0 : decide (60 < x3_1) = false := decide_eq_false c7
         clear c7
         obtain rfl := Option.some.inj H
         go_wp2
         go_ret
         exact ⟨by first | rfl | (simp; done) | (simp [*]; done), by repeat (first | exact Drawn0.refl _ | apply Drawn0.step)⟩
end Go.Proofs.Ytpmconnonleokaa.P
end
section
namespace Go.Proofs.Ytpmconnonleokaa.P
open Go.RowKit Go.Proofs.YtpmconnonleokaaW.PrintWords Go.Proofs.YtpmconnonleokaaW.PrintLast Go.Proofs.YtpmconnonleokaaW.PrintMore
attribute [local go_sem] max2_int min2_int max_two min_two max_three min_three max_four min_four   -- for this text's walks alone
set_option linter.unusedVariables false
set_option linter.unusedSimpArgs false
mutual
def spec_l07Deadline.l0 : Nat → List Int → Int → Int → List Int → List Int → Int → Option (List Int × Bool)
  | 0, _, _, _, _, _, _ => none
  | k + 1, x0, x1, x2, x8, x9, x10 => if x10 ≤ x1 then (spec_l07Deadline.l1 k x0 x1 x2 x8 x9 x10 (-1) 0 (x0.length : Int) 0) else (some (x8, true))
def spec_l07Deadline.l1 : Nat → List Int → Int → Int → List Int → List Int → Int → Int → Int → Int → Int → Option (List Int × Bool)
  | 0, _, _, _, _, _, _, _, _, _, _ => none
  | k + 1, x0, x1, x2, x8, x9, x10, x11, x12, x26, x27 => if x27 < x26 then (if 0 ≤ x27 then (if x27 < (x9.length : Int) then (if x27 < (x0.length : Int) then (if (wrap64 ((rd x9 x27) + 1)) > (rd x0 x27) then (spec_l07Deadline.j2 k x0 x1 x2 x8 x9 x10 x11 x12 x27 (wrap64 ((rd x9 x27) + 1)) x26 x27 true) else (spec_l07Deadline.j2 k x0 x1 x2 x8 x9 x10 x11 x12 x27 (wrap64 ((rd x9 x27) + 1)) x26 x27 (decide ((wrap64 ((wrap64 (x1 * (wrap64 ((rd x9 x27) + 1)))) - (wrap64 (x10 * (rd x0 x27))))) > x2)))) else (none)) else (none)) else (none)) else (if x11 < 0 then (some (([] : List Int), false)) else (if x12 < x10 then (some (([] : List Int), false)) else (if 0 ≤ x11 then (if x11 < (x9.length : Int) then (if x8.length < 17592186044416 then (spec_l07Deadline.l0 k x0 x1 x2 (x8 ++ [x11]) (x9.set (x11 : Int).toNat (wrap64 ((rd x9 x11) + 1))) (wrap64 (x10 + 1))) else (none)) else (none)) else (none))))
def spec_l07Deadline.j2 : Nat → List Int → Int → Int → List Int → List Int → Int → Int → Int → Int → Int → Int → Int → Bool → Option (List Int × Bool)
  | 0, _, _, _, _, _, _, _, _, _, _, _, _, _ => none
  | k + 1, x0, x1, x2, x8, x9, x10, x11, x12, x13, x14, x26, x27, x54 => if x54 = true then (spec_l07Deadline.l1 k x0 x1 x2 x8 x9 x10 x11 x12 x26 (wrap64 (x27 + 1))) else (if 0 ≤ x13 then (if x13 < (x0.length : Int) then (if (rd x0 x13) = 0 then (none) else (if x11 < 0 then (spec_l07Deadline.l1 k x0 x1 x2 x8 x9 x10 x13 (mn (wrap64 ((wrap64 (Int.tdiv (wrap64 (x2 + (wrap64 (x1 * (wrap64 (x14 - 1)))))) (rd x0 x13))) + 1)) x1) x26 (wrap64 (x27 + 1))) else (if (mn (wrap64 ((wrap64 (Int.tdiv (wrap64 (x2 + (wrap64 (x1 * (wrap64 (x14 - 1)))))) (rd x0 x13))) + 1)) x1) < x12 then (spec_l07Deadline.l1 k x0 x1 x2 x8 x9 x10 x13 (mn (wrap64 ((wrap64 (Int.tdiv (wrap64 (x2 + (wrap64 (x1 * (wrap64 (x14 - 1)))))) (rd x0 x13))) + 1)) x1) x26 (wrap64 (x27 + 1))) else (spec_l07Deadline.l1 k x0 x1 x2 x8 x9 x10 x11 x12 x26 (wrap64 (x27 + 1)))))) else (none)) else (none))
end
def spec_l07Deadline.f (k : Nat) (l0 : List Int) (a1 : Int) (a2 : Int) : Option (List Int × Bool) := if 0 ≤ (l0.length : Int) then (if ((l0.length : Int) : Int).toNat ≤ 35184372088832 then (spec_l07Deadline.l0 k l0 a1 a2 (([] : List Int)) (List.replicate ((l0.length : Int) : Int).toNat 0) 1) else (none)) else (none)
theorem spec_l07Deadline.mono_l : ∀ k, (∀ y0 y1 y2 y3 y4 y5, LeO (spec_l07Deadline.l0 k y0 y1 y2 y3 y4 y5) (spec_l07Deadline.l0 (k + 1) y0 y1 y2 y3 y4 y5)) ∧ (∀ y0 y1 y2 y3 y4 y5 y6 y7 y8 y9, LeO (spec_l07Deadline.l1 k y0 y1 y2 y3 y4 y5 y6 y7 y8 y9) (spec_l07Deadline.l1 (k + 1) y0 y1 y2 y3 y4 y5 y6 y7 y8 y9)) ∧ (∀ y0 y1 y2 y3 y4 y5 y6 y7 y8 y9 y10 y11 y12, LeO (spec_l07Deadline.j2 k y0 y1 y2 y3 y4 y5 y6 y7 y8 y9 y10 y11 y12) (spec_l07Deadline.j2 (k + 1) y0 y1 y2 y3 y4 y5 y6 y7 y8 y9 y10 y11 y12))
  | 0 => ⟨fun _ _ _ _ _ _ r h => by simp [spec_l07Deadline.l0] at h, fun _ _ _ _ _ _ _ _ _ _ r h => by simp [spec_l07Deadline.l1] at h, fun _ _ _ _ _ _ _ _ _ _ _ _ _ r h => by simp [spec_l07Deadline.j2] at h⟩
  | k + 1 => by
    obtain ⟨ih0, ih1, ih2⟩ := spec_l07Deadline.mono_l k
    refine ⟨?_, ?_, ?_⟩ <;> intros <;> (first | unfold spec_l07Deadline.l0 | unfold spec_l07Deadline.l1 | unfold spec_l07Deadline.j2) <;> repeat' first | (with_reducible exact ih0 _ _ _ _ _ _) | (with_reducible exact ih1 _ _ _ _ _ _ _ _ _ _) | (with_reducible exact ih2 _ _ _ _ _ _ _ _ _ _ _ _ _) | (with_reducible exact LeO.refl _) | (with_reducible exact LeO.none _) | (with_reducible refine LeO.ite ?_ ?_) | (with_reducible refine LeO.bind ?_ (fun _ => ?_)) | exact ih0 _ _ _ _ _ _ | exact ih1 _ _ _ _ _ _ _ _ _ _ | exact ih2 _ _ _ _ _ _ _ _ _ _ _ _ _ | exact LeO.none _ | refine LeO.ite ?_ ?_ | refine LeO.bind ?_ (fun _ => ?_)
theorem spec_l07Deadline.mono : ∀ a0 a1 a2 k, LeO (spec_l07Deadline.f k a0 a1 a2) (spec_l07Deadline.f (k + 1) a0 a1 a2) := by
  intro a0 a1 a2 k
  obtain ⟨ih0, ih1, ih2⟩ := spec_l07Deadline.mono_l k
  unfold spec_l07Deadline.f
  repeat' first | (with_reducible exact ih0 _ _ _ _ _ _) | (with_reducible exact ih1 _ _ _ _ _ _ _ _ _ _) | (with_reducible exact ih2 _ _ _ _ _ _ _ _ _ _ _ _ _) | (with_reducible exact LeO.refl _) | (with_reducible exact LeO.none _) | (with_reducible refine LeO.ite ?_ ?_) | (with_reducible refine LeO.bind ?_ (fun _ => ?_)) | exact ih0 _ _ _ _ _ _ | exact ih1 _ _ _ _ _ _ _ _ _ _ | exact ih2 _ _ _ _ _ _ _ _ _ _ _ _ _ | exact LeO.none _ | refine LeO.ite ?_ ?_ | refine LeO.bind ?_ (fun _ => ?_)
set_option maxHeartbeats 8000000 in
set_option maxRecDepth 100000 in
theorem spec_l07Deadline.calls (k : Nat) (A0 : Option Addr) (c0 : Nat) (l0 : List Int) (a1 : Int) (a2 : Int) (r1 : List Int) (r2 : Bool) (w : World) (hr0 : Kd.C (Kd.int .i64) w A0 l0.length l0) (hc0 : l0.length ≤ c0) (h : spec_l07Deadline.f k l0 a1 a2 = some (r1, r2)) :
    Calls Try.prog 29 #[.slice A0 l0.length c0, .int .i64 a1, .int .i64 a2] w fun e w' => ∃ v0_ : Value, e = .returned (.tuple #[v0_, .bool r2]) ∧ Kd.R (Kd.int .i64) 2 w' w.heap.size (fun _ => True) v0_ r1 ∧ Below w.heap.size w w' := by
 have HR0 := Aside0.mk hr0
 have HC0 := Aside0.mk hc0
 clear hr0 hc0
 have HB := Aside0.mk (Below.refl w.heap.size w)
 have H : (if 0 ≤ (l0.length : Int) then (if ((l0.length : Int) : Int).toNat ≤ 35184372088832 then (spec_l07Deadline.l0 k l0 a1 a2 (([] : List Int)) (List.replicate ((l0.length : Int) : Int).toNat 0) 1) else (none)) else (none)) = some (r1, r2) := h
 clear h
 obtain ⟨y101, hy101⟩ : ∃ y_ : List Int, y_ = (([] : List Int)) := ⟨_, rfl⟩
 replace H : (if 0 ≤ (l0.length : Int) then (if ((l0.length : Int) : Int).toNat ≤ 35184372088832 then (spec_l07Deadline.l0 k l0 a1 a2 y101 (List.replicate ((l0.length : Int) : Int).toNat 0) 1) else (none)) else (none)) = some (r1, r2) := zH hy101
 have Ny101 := Aside0.mk hy101
 clear hy101
 by_cases c4 : 0 ≤ (l0.length : Int)
 case neg => rw [if_neg c4] at H; exact absurd H (by simp)
 rw [if_pos c4] at H
 have c4b0 := eq_true c4
 have c4b1 : decide (0 ≤ (l0.length : Int)) = true := decide_eq_true c4
 clear c4
 by_cases c5 : ((l0.length : Int) : Int).toNat ≤ 35184372088832
 case neg => rw [if_neg c5] at H; exact absurd H (by simp)
 rw [if_pos c5] at H
 have c5b0 := eq_true c5
 have c5b1 : decide (((l0.length : Int) : Int).toNat ≤ 35184372088832) = true := decide_eq_true c5
 clear c5
 obtain ⟨y104, hy104⟩ : ∃ y_ : List Int, y_ = (List.replicate ((l0.length : Int) : Int).toNat 0) := ⟨_, rfl⟩
 replace H : (spec_l07Deadline.l0 k l0 a1 a2 y101 y104 1) = some (r1, r2) := zH hy104
 have Ny104 := Aside0.mk hy104
 clear hy104
 have H' := Aside0.mk H
 clear H
 go_enter Try.func29, Try.ntmps29
 try go_wp2
 replace HB := Aside0.mk (below_drew1 HB.out)
 refine start_ (n := 6) (S := fun w' => True) (ds := []) #[false,false,false,false,false,false] zk rfl rfl trivial (fun hHeld => ?_)
 generalize w.drew = w6 at HB hHeld ⊢
 refine pure_ (i := 1) (N := some 17) (v := ?_) (a' := ?_) #[false,true,false,false,false,false] rfl rfl zk (fun _ _ _ h => h) (Or.inl ⟨by rfl, ?_⟩) ?_ ?_
 rotate_left; exact zp; rotate_left; exact zq
 refine pure_ (i := 2) (N := some 18) (v := ?_) (a' := ?_) #[false,true,true,false,false,false] rfl rfl zk (fun _ _ _ h => h) (Or.inl ⟨by rfl, ?_⟩) ?_ ?_
 rotate_left; exact zp; rotate_left; exact zq
 refine join_ (σ := Value × Value) 1 #[true,true,true,true,true,false] (fun s_ => [(16, s_.1), (19, s_.2), (8, s_.1)]) (fun s_ w' => (Kd.R (Kd.int .i64) 2 w' w.heap.size (fun k_ => some k_ ≠ (s_.2 : Value).ownBlock) s_.1 y101) ∧ (Kd.R (Kd.int .i64) 2 w' w.heap.size (fun k_ => some k_ ≠ (s_.1 : Value).ownBlock) s_.2 y104) ∧ (Below w.heap.size w w')) ?_ ?_
 rotate_left
 ·
  intro hCont
  refine two_ (i := 0) (j := 3) (Ni := some 16) (Nj := some 19) #[true,true,true,false,false,false] #[false,true,true,true,false,false] rfl rfl rfl rfl zk (by decide) (by decide) (fun K hK => ?_) (fun K hK => ?_)
  ·
   skip
   refine Kd.R_lit_step (Kd.int .i64) _ 2 ?hg (N := 16) ?hd (xs := ([] : List Int)) (inner := []) (ok := fun _ => True) (okp := fun _ => True) ?hr ?hp (fun _ hk => hk) trivial (Below.refl _ _) (Nat.le_refl _) (by simp) ?_; (case hd => rfl); (case hg => rfl); (case hr => first | (go_simp; done) | (go_simp; rfl)); (case hp => exact (Reps.none _ _))
   intro v102 w7 ho8 hb hg_ hnew_
   clear hg_ hnew_
   (first | rw [← Ny101.out] at ho8 | (simp only [Int.reduceToNat] at ho8; rw [← Ny101.out] at ho8))
   have n_ := y2 (Kd.R_lower ho8 (below_size (zB))) (below_step (zB) hb)
   clear HB
   obtain ⟨HO103, HB⟩ := n_
   clear hb ho8
   refine hK.out _ _ trivial (fun hHeld => ?_)
   clear hK K
   refine norm_ (a' := ?_) ?_ ?_
   rotate_left
   ·
    show Act.put _ (some 16) _ = _
    simp only [Act.put, List.setIfInBounds_toArray, List.set_cons_zero, List.set_cons_succ, i64_w, i32_w]
    rfl
   refine pure_ (i := 4) (N := some 8) (v := ?_) (a' := ?_) #[true,true,true,false,true,false] rfl rfl zk (fun _ _ _ h => h) (Or.inl ⟨by rfl, ?_⟩) ?_ ?_
   rotate_left; exact zp; rotate_left; exact zq
   refine one_ (i := 3) (N := some 19) #[true,true,true,true,true,false] rfl rfl zk (by decide) (fun K hK => ?_)
   refine Kd.R_make_step (Kd.int .i64) _ 2 (by rfl) (N := 19) rfl 24 _ _ rfl (l0.length : Int) rfl rfl Try.underlying24 (.int .i64 0) 8 info2 rfl (by decide) (by omega) 0 (ok := fun _ => True) (okp := fun _ => True) rfl (fun _ hk => hk) trivial (zD) (Nat.le_trans (Nat.mul_le_mul_right _ (zD : (l0.length : Int).toNat ≤ 35184372088832)) (by omega)) (Below.refl _ _) (Nat.le_refl _) ?_
   intro v105 w9 ho10 hb hg_ hnew_
   clear hg_ hnew_
   (first | rw [← Ny104.out] at ho10 | (simp only [Int.reduceToNat] at ho10; rw [← Ny104.out] at ho10))
   have n_ := y3 (Kd.R_elder' (zR HO103.out) (Kd.R_base ho10) hb) (Kd.R_lower (Kd.R_new' ho10 (Kd.R_lt (zR HO103.out))) (below_size (zB))) (below_step (zB) hb)
   clear HO103 HB
   obtain ⟨HO103, HO106, HB⟩ := n_
   clear hb ho10
   refine hK.out _ _ trivial (fun hHeld => ?_)
   clear hK K
   refine norm_ (a' := ?_) ?_ ?_
   rotate_left
   ·
    show Act.put _ (some 19) _ = _
    simp only [Act.put, List.setIfInBounds_toArray, List.set_cons_zero, List.set_cons_succ, i64_w, i32_w]
    rfl
   exact norm_ (by simp only [putAll, Act.put, List.setIfInBounds_toArray, List.set_cons_zero, List.set_cons_succ]) (hCont (v102, v105) _ ⟨(by refine zR ?_; exact Kd.R_mono HO103.out (fun _ hk => hk.2)), (by refine zR ?_; exact Kd.R_mono HO106.out (fun _ hk => hk.2)), (zB)⟩)
  skip
  refine Kd.R_make_step (Kd.int .i64) _ 2 (by rfl) (N := 19) rfl 24 _ _ rfl (l0.length : Int) rfl rfl Try.underlying24 (.int .i64 0) 8 info2 rfl (by decide) (by omega) 0 (ok := fun _ => True) (okp := fun _ => True) rfl (fun _ hk => hk) trivial (zD) (Nat.le_trans (Nat.mul_le_mul_right _ (zD : (l0.length : Int).toNat ≤ 35184372088832)) (by omega)) (Below.refl _ _) (Nat.le_refl _) ?_
  intro v105 w7 ho8 hb hg_ hnew_
  clear hg_ hnew_
  (first | rw [← Ny104.out] at ho8 | (simp only [Int.reduceToNat] at ho8; rw [← Ny104.out] at ho8))
  have n_ := y2 (Kd.R_lower ho8 (below_size (zB))) (below_step (zB) hb)
  clear HB
  obtain ⟨HO106, HB⟩ := n_
  clear hb ho8
  refine hK.out _ _ trivial (fun hHeld => ?_)
  clear hK K
  refine norm_ (a' := ?_) ?_ ?_
  rotate_left
  ·
   show Act.put _ (some 19) _ = _
   simp only [Act.put, List.setIfInBounds_toArray, List.set_cons_zero, List.set_cons_succ, i64_w, i32_w]
   rfl
  refine one_ (i := 0) (N := some 16) #[true,true,true,true,false,false] rfl rfl zk (by decide) (fun K hK => ?_)
  refine Kd.R_lit_step (Kd.int .i64) _ 2 ?hg (N := 16) ?hd (xs := ([] : List Int)) (inner := []) (ok := fun _ => True) (okp := fun _ => True) ?hr ?hp (fun _ hk => hk) trivial (Below.refl _ _) (Nat.le_refl _) (by simp) ?_; (case hd => rfl); (case hg => rfl); (case hr => first | (go_simp; done) | (go_simp; rfl)); (case hp => exact (Reps.none _ _))
  intro v102 w9 ho10 hb hg_ hnew_
  clear hg_ hnew_
  (first | rw [← Ny101.out] at ho10 | (simp only [Int.reduceToNat] at ho10; rw [← Ny101.out] at ho10))
  have n_ := y3 (Kd.R_elder' (zR HO106.out) (Kd.R_base ho10) hb) (Kd.R_lower (Kd.R_new' ho10 (Kd.R_lt (zR HO106.out))) (below_size (zB))) (below_step (zB) hb)
  clear HO106 HB
  obtain ⟨HO106, HO103, HB⟩ := n_
  clear hb ho10
  refine hK.out _ _ trivial (fun hHeld => ?_)
  clear hK K
  refine norm_ (a' := ?_) ?_ ?_
  rotate_left
  ·
   show Act.put _ (some 16) _ = _
   simp only [Act.put, List.setIfInBounds_toArray, List.set_cons_zero, List.set_cons_succ, i64_w, i32_w]
   rfl
  refine pure_ (i := 4) (N := some 8) (v := ?_) (a' := ?_) #[true,true,true,true,true,false] rfl rfl zk (fun _ _ _ h => h) (Or.inl ⟨by rfl, ?_⟩) ?_ ?_
  rotate_left; exact zp; rotate_left; exact zq
  exact norm_ (by simp only [putAll, Act.put, List.setIfInBounds_toArray, List.set_cons_zero, List.set_cons_succ]) (hCont (v102, v105) _ ⟨(by refine zR ?_; exact Kd.R_mono HO103.out (fun _ hk => hk.2)), (by refine zR ?_; exact Kd.R_mono HO106.out (fun _ hk => hk.2)), (zB)⟩)
 rintro ⟨v102, v105⟩ w11 ⟨h0_, h1_, h2_⟩
 have n0_ : Aside0 (Kd.R (Kd.int .i64) 2 w11 w.heap.size (fun k_ => some k_ ≠ (v105 : Value).ownBlock) v102 y101) := ⟨h0_⟩
 have n1_ : Aside0 (Kd.R (Kd.int .i64) 2 w11 w.heap.size (fun k_ => some k_ ≠ (v102 : Value).ownBlock) v105 y104) := ⟨h1_⟩
 have n2_ : Aside0 (Below w.heap.size w w11) := ⟨h2_⟩
 clear HB
 clear h0_ h1_ h2_
 have HO103 := n0_
 have HO106 := n1_
 have HB := n2_
 clear n0_ n1_ n2_
 have hHeld := trivial
 refine norm_ (a' := ?_) ?_ ?_
 rotate_left
 ·
  simp only [putAll, Act.put, List.setIfInBounds_toArray, List.set_cons_zero, List.set_cons_succ]
  rfl
 refine pure_ (i := 5) (N := some 9) (v := ?_) (a' := ?_) #[true,true,true,true,true,true] rfl rfl zk (fun _ _ _ h => h) (Or.inl ⟨by rfl, ?_⟩) ?_ ?_
 rotate_left; exact zp; rotate_left; exact zq
 refine done_ zk ?_
 try go_wp2
 go_loopg [8, 10] k (fun kq v8 v10 w' => ∃ (x8_1 : List Int) (x9_1 : List Int) (x10_1 : Int), v10 = .int .i64 x10_1 ∧ Aside0 (spec_l07Deadline.l0 kq l0 a1 a2 x8_1 x9_1 x10_1 = some (r1, r2)) ∧ Aside0 (kq ≤ k) ∧ Aside0 (Kd.R (Kd.int .i64) 2 w' w.heap.size (fun k_ => some k_ ≠ (v105 : Value).ownBlock) v8 x8_1) ∧ Aside0 (Kd.R (Kd.int .i64) 2 w' w.heap.size (fun k_ => some k_ ≠ (v8 : Value).ownBlock) v105 x9_1) ∧ Aside0 (Below w.heap.size w w'))
 case atStart => exact ⟨(y101), (y104), (1), zF, H', ⟨Nat.le_refl _⟩, ⟨zR HO103.out⟩, ⟨zR HO106.out⟩, ⟨zB⟩⟩
 clear H'
 try clear c4
 try clear c4b0
 try clear c4b1
 try clear c5
 try clear c5b0
 try clear c5b1
 obtain ⟨x8_1, x9_1, x10_1, rfl, HA, HK1, HO_8, HO_9, HB⟩ := hrel
 cases gk with
 | zero => exact absurd HA.out (by simp [spec_l07Deadline.l0])
 | succ k1 =>
   have H := HA.out
   clear HA
   simp only [spec_l07Deadline.l0] at H
   by_cases c12 : x10_1 ≤ a1
   · rw [if_pos c12] at H
     have c12b0 : decide (x10_1 ≤ a1) = true := decide_eq_true c12
     clear c12
     have H' := Aside0.mk H
     clear H
     go_wp2
     go_loopg [11, 12, 27] k1 (fun kq v11 v12 v27 w' => ∃ (x11_2 : Int) (x12_2 : Int) (x27_2 : Int), v11 = .int .i64 x11_2 ∧ v12 = .int .i64 x12_2 ∧ v27 = .int .i64 x27_2 ∧ Aside0 (spec_l07Deadline.l1 kq l0 a1 a2 x8_1 x9_1 x10_1 x11_2 x12_2 (l0.length : Int) x27_2 = some (r1, r2)) ∧ Aside0 (kq ≤ k1) ∧ Aside0 (Kd.R (Kd.int .i64) 2 w' w.heap.size (fun k_ => some k_ ≠ (v105 : Value).ownBlock) u8 x8_1) ∧ Aside0 (Kd.R (Kd.int .i64) 2 w' w.heap.size (fun k_ => some k_ ≠ (u8 : Value).ownBlock) v105 x9_1) ∧ Aside0 (Below w.heap.size w w'))
     case atStart => exact ⟨((-1)), (0), (0), zF, zF, zF, H', ⟨Nat.le_refl _⟩, ⟨zR HO_8.out⟩, ⟨zR HO_9.out⟩, ⟨zB⟩⟩
     case round =>
       clear H'
       try clear c4
       try clear c4b0
       try clear c4b1
       try clear c5
       try clear c5b0
       try clear c5b1
       try clear c12
       try clear c12b0
       obtain ⟨x11_2, x12_2, x27_2, rfl, rfl, rfl, HA, HK2, HO_8, HO_9, HB⟩ := hrel
       cases gk with
       | zero => exact absurd HA.out (by simp [spec_l07Deadline.l1])
       | succ k2 =>
         have H := HA.out
         clear HA
         simp only [spec_l07Deadline.l1] at H
         by_cases c13 : x27_2 < (l0.length : Int)
         · rw [if_pos c13] at H
           have c13b0 : decide (x27_2 < (l0.length : Int)) = true := decide_eq_true c13
           clear c13
           by_cases c14 : 0 ≤ x27_2
           · rw [if_pos c14] at H
             have c14b0 : decide (0 ≤ x27_2) = true := decide_eq_true c14
             clear c14
             by_cases c15 : x27_2 < (x9_1.length : Int)
             · rw [if_pos c15] at H
               have c15b0 : decide (x27_2 < (x9_1.length : Int)) = true := decide_eq_true c15
               clear c15
               have HC16 := Aside0.mk H
               clear H
               obtain ⟨Ao17, co17, eo17⟩ := Kd.R_slice HO_9.out
               subst eo17
               have p112 : 0 ≤ (x27_2 : Int) := zD
               have q112 : x27_2 < (x9_1.length : Int) := zD
               obtain ⟨ad112, e112, hx112_0⟩ := Kd.at_int (Kd.R_reads' HO_9.out).2.2 x27_2 p112 q112
               cases e112
               replace p112 := eq_true p112
               replace q112 := eq_true q112
               go_upto_region 10 with (fail)
               go_cut [54] (fun v54 wc => ∃ (kq : Nat) (x54_15 : Bool), v54 = .bool x54_15 ∧ Aside0 (spec_l07Deadline.j2 kq l0 a1 a2 x8_1 x9_1 x10_1 x11_2 x12_2 x27_2 (wrap64 ((rd x9_1 x27_2) + 1)) (l0.length : Int) x27_2 x54_15 = some (r1, r2)) ∧ Aside0 (kq ≤ k2) ∧ Aside0 (Kd.R (Kd.int .i64) 2 wc w.heap.size (fun k_ => some k_ ≠ ((.slice (some ad112) x9_1.length co17) : Value).ownBlock) u8 x8_1) ∧ Aside0 (Kd.R (Kd.int .i64) 2 wc w.heap.size (fun k_ => some k_ ≠ (u8 : Value).ownBlock) (.slice (some ad112) x9_1.length co17) x9_1) ∧ Aside0 (Below w.heap.size w wc))
               case first =>
                 have H := HC16.out
                 clear HC16
                 by_cases c18 : x27_2 < (l0.length : Int)
                 · rw [if_pos c18] at H
                   have c18b0 : decide (x27_2 < (l0.length : Int)) = true := decide_eq_true c18
                   clear c18
                   (first | rw [c18b0] | (simp only [i64_w, i32_w]; rw [c18b0]) | skip)
                   by_cases c19 : (wrap64 ((rd x9_1 x27_2) + 1)) > (rd l0 x27_2)
                   · rw [if_pos c19] at H
                     have c19b0 : decide ((rd l0 x27_2) < (wrap64 ((rd x9_1 x27_2) + 1))) = true := decide_eq_true c19
                     clear c19
                     have H' := Aside0.mk H
                     clear H
                     have p113 : 0 ≤ (x27_2 : Int) := zD
                     have q113 : x27_2 < (l0.length : Int) := zD
                     obtain ⟨ad113, e113, hx113_0⟩ := Kd.at_int HR0.out x27_2 p113 q113
                     cases e113
                     replace hx113_0 := (HB.out.cell (World.block_lt_of_cell? w _ hx113_0)).trans hx113_0
                     replace p113 := eq_true p113
                     replace q113 := eq_true q113
                     go_wp2
                     go_meet
                     case rel => exact ⟨_, (true), zF, H', ⟨by have := HK1.out; have := HK2.out; first | omega | exact Nat.le_refl _⟩, ⟨zR HO_8.out⟩, ⟨zR HO_9.out⟩, ⟨zB⟩⟩
                   · rw [if_neg c19] at H
                     have c19b0 : decide ((rd l0 x27_2) < (wrap64 ((rd x9_1 x27_2) + 1))) = false := decide_eq_false c19
                     clear c19
                     have H' := Aside0.mk H
                     clear H
                     have p113 : 0 ≤ (x27_2 : Int) := zD
                     have q113 : x27_2 < (l0.length : Int) := zD
                     obtain ⟨ad113, e113, hx113_0⟩ := Kd.at_int HR0.out x27_2 p113 q113
                     cases e113
                     replace hx113_0 := (HB.out.cell (World.block_lt_of_cell? w _ hx113_0)).trans hx113_0
                     replace p113 := eq_true p113
                     replace q113 := eq_true q113
                     have p114 : 0 ≤ (x27_2 : Int) := zD
                     have q114 : x27_2 < (l0.length : Int) := zD
                     obtain ⟨ad114, e114, hx114_0⟩ := Kd.at_int HR0.out x27_2 p114 q114
                     obtain rfl : ad113 = ad114 := (by injection e114)
                     replace hx114_0 := (HB.out.cell (World.block_lt_of_cell? w _ hx114_0)).trans hx114_0
                     replace p114 := eq_true p114
                     replace q114 := eq_true q114
                     go_wp2
                     go_meet
                     case rel => exact ⟨_, (decide ((wrap64 ((wrap64 (a1 * (wrap64 ((rd x9_1 x27_2) + 1)))) - (wrap64 (x10_1 * (rd l0 x27_2))))) > a2)), zF, H', ⟨by have := HK1.out; have := HK2.out; first | omega | exact Nat.le_refl _⟩, ⟨zR HO_8.out⟩, ⟨zR HO_9.out⟩, ⟨zB⟩⟩
                 · rw [if_neg c18] at H
                   exact absurd H (by simp)
               case rest =>
                 clear HC16
                 try clear c4
                 try clear c4b0
                 try clear c4b1
                 try clear c5
                 try clear c5b0
                 try clear c5b1
                 try clear c12
                 try clear c12b0
                 try clear c13
                 try clear c13b0
                 try clear c14
                 try clear c14b0
                 try clear c15
                 try clear c15b0
                 try clear hx112_0
                 try clear p112
                 try clear q112
                 obtain ⟨kq, x54_15, rfl, HA, HJ15, HO_8, HO_9, HB⟩ := hcut
                 cases kq with
                 | zero => exact absurd HA.out (by simp [spec_l07Deadline.j2])
                 | succ kj15 =>
                   have H := HA.out
                   clear HA
                   simp only [spec_l07Deadline.j2] at H
                   by_cases c20 : x54_15 = true
                   · subst c20
                     have H1 : (spec_l07Deadline.l1 kj15 l0 a1 a2 x8_1 x9_1 x10_1 x11_2 x12_2 (l0.length : Int) (wrap64 (x27_2 + 1))) = some (r1, r2) := by rw [if_pos rfl] at H; exact H
                     clear H
                     have H := H1
                     clear H1
                     have H' := Aside0.mk H
                     clear H
                     go_wp2
                     go_roundg kj15
                     case measure => have := HK1.out; have := HK2.out; have := HJ15.out; omega
                     case rel => exact ⟨(x11_2), (x12_2), (wrap64 (x27_2 + 1)), zF, zF, zF, H', ⟨by have := HK1.out; have := HK2.out; have := HJ15.out; omega⟩, ⟨zR HO_8.out⟩, ⟨zR HO_9.out⟩, ⟨zB⟩⟩
                   · replace c20 := Bool.eq_false_iff.mpr c20
                     subst c20
                     have H1 : (if 0 ≤ x27_2 then (if x27_2 < (l0.length : Int) then (if (rd l0 x27_2) = 0 then (none) else (if x11_2 < 0 then (spec_l07Deadline.l1 kj15 l0 a1 a2 x8_1 x9_1 x10_1 x27_2 (mn (wrap64 ((wrap64 (Int.tdiv (wrap64 (a2 + (wrap64 (a1 * (wrap64 ((wrap64 ((rd x9_1 x27_2) + 1)) - 1)))))) (rd l0 x27_2))) + 1)) a1) (l0.length : Int) (wrap64 (x27_2 + 1))) else (if (mn (wrap64 ((wrap64 (Int.tdiv (wrap64 (a2 + (wrap64 (a1 * (wrap64 ((wrap64 ((rd x9_1 x27_2) + 1)) - 1)))))) (rd l0 x27_2))) + 1)) a1) < x12_2 then (spec_l07Deadline.l1 kj15 l0 a1 a2 x8_1 x9_1 x10_1 x27_2 (mn (wrap64 ((wrap64 (Int.tdiv (wrap64 (a2 + (wrap64 (a1 * (wrap64 ((wrap64 ((rd x9_1 x27_2) + 1)) - 1)))))) (rd l0 x27_2))) + 1)) a1) (l0.length : Int) (wrap64 (x27_2 + 1))) else (spec_l07Deadline.l1 kj15 l0 a1 a2 x8_1 x9_1 x10_1 x11_2 x12_2 (l0.length : Int) (wrap64 (x27_2 + 1)))))) else (none)) else (none)) = some (r1, r2) := by rw [if_neg (show ¬ (false = true) by decide)] at H; exact H
                     clear H
                     have H := H1
                     clear H1
                     by_cases c21 : 0 ≤ x27_2
                     · rw [if_pos c21] at H
                       have c21b0 : decide (0 ≤ x27_2) = true := decide_eq_true c21
                       clear c21
                       by_cases c22 : x27_2 < (l0.length : Int)
                       · rw [if_pos c22] at H
                         have c22b0 : decide (x27_2 < (l0.length : Int)) = true := decide_eq_true c22
                         clear c22
                         by_cases c23 : (rd l0 x27_2) = 0
                         · rw [if_pos c23] at H
                           exact absurd H (by simp)
                         · rw [if_neg c23] at H
                           have c23b0 : ((rd l0 x27_2) == 0) = false := beq_eq_false_iff_ne.mpr c23
                           have c23b1 : ((rd l0 x27_2) != 0) = true := bne_iff_ne.mpr c23
                           obtain ⟨ji24, hji24⟩ : ∃ j_ : Int, (mn (wrap64 ((wrap64 (Int.tdiv (wrap64 (a2 + (wrap64 (a1 * (wrap64 ((wrap64 ((rd x9_1 x27_2) + 1)) - 1)))))) (rd l0 x27_2))) + 1)) a1) = j_ := ⟨_, rfl⟩
                           replace H : (if x11_2 < 0 then (spec_l07Deadline.l1 kj15 l0 a1 a2 x8_1 x9_1 x10_1 x27_2 ji24 (l0.length : Int) (wrap64 (x27_2 + 1))) else (if (ji24) < x12_2 then (spec_l07Deadline.l1 kj15 l0 a1 a2 x8_1 x9_1 x10_1 x27_2 ji24 (l0.length : Int) (wrap64 (x27_2 + 1))) else (spec_l07Deadline.l1 kj15 l0 a1 a2 x8_1 x9_1 x10_1 x11_2 x12_2 (l0.length : Int) (wrap64 (x27_2 + 1))))) = some (r1, r2) := by first | (rw [hji24] at H; exact H) | (simp only [hji24] at H ⊢; exact H)
                           have hji24_ : (if a1 < (wrap64 ((wrap64 (Int.tdiv (wrap64 (a2 + (wrap64 (a1 * (wrap64 ((wrap64 ((rd x9_1 x27_2) + 1)) - 1)))))) (rd l0 x27_2))) + 1)) then a1 else (wrap64 ((wrap64 (Int.tdiv (wrap64 (a2 + (wrap64 (a1 * (wrap64 ((wrap64 ((rd x9_1 x27_2) + 1)) - 1)))))) (rd l0 x27_2))) + 1))) = ji24 := hji24
                           by_cases c25 : x11_2 < 0
                           · rw [if_pos c25] at H
                             have c25b0 : decide (x11_2 < 0) = true := decide_eq_true c25
                             clear c25
                             have H' := Aside0.mk H
                             clear H
                             have p115 : 0 ≤ (x27_2 : Int) := zD
                             have q115 : x27_2 < (l0.length : Int) := zD
                             obtain ⟨ad115, e115, hx115_0⟩ := Kd.at_int HR0.out x27_2 p115 q115
                             cases e115
                             replace hx115_0 := (HB.out.cell (World.block_lt_of_cell? w _ hx115_0)).trans hx115_0
                             replace p115 := eq_true p115
                             replace q115 := eq_true q115
                             go_wp2
                             go_roundg kj15
                             case measure => have := HK1.out; have := HK2.out; have := HJ15.out; omega
                             case rel => exact ⟨(x27_2), (ji24), (wrap64 (x27_2 + 1)), zF, (by first | rfl | (simp; done) | (simp only [← hji24] <;> (first | rfl | simp)) | (simp [*]; done)), zF, H', ⟨by have := HK1.out; have := HK2.out; have := HJ15.out; omega⟩, ⟨zR HO_8.out⟩, ⟨zR HO_9.out⟩, ⟨zB⟩⟩
                           · rw [if_neg c25] at H
                             have c25b0 : decide (x11_2 < 0) = false := decide_eq_false c25
                             clear c25
                             by_cases c26 : (ji24) < x12_2
                             · rw [if_pos c26] at H
                               have c26b0 : decide ((ji24) < x12_2) = true := decide_eq_true c26
                               clear c26
                               have H' := Aside0.mk H
                               clear H
                               have p115 : 0 ≤ (x27_2 : Int) := zD
                               have q115 : x27_2 < (l0.length : Int) := zD
                               obtain ⟨ad115, e115, hx115_0⟩ := Kd.at_int HR0.out x27_2 p115 q115
                               cases e115
                               replace hx115_0 := (HB.out.cell (World.block_lt_of_cell? w _ hx115_0)).trans hx115_0
                               replace p115 := eq_true p115
                               replace q115 := eq_true q115
                               go_wp2
                               go_roundg kj15
                               case measure => have := HK1.out; have := HK2.out; have := HJ15.out; omega
                               case rel => exact ⟨(x27_2), (ji24), (wrap64 (x27_2 + 1)), zF, (by first | rfl | (simp; done) | (simp only [← hji24] <;> (first | rfl | simp)) | (simp [*]; done)), zF, H', ⟨by have := HK1.out; have := HK2.out; have := HJ15.out; omega⟩, ⟨zR HO_8.out⟩, ⟨zR HO_9.out⟩, ⟨zB⟩⟩
                             · rw [if_neg c26] at H
                               have c26b0 : decide ((ji24) < x12_2) = false := decide_eq_false c26
                               clear c26
                               have H' := Aside0.mk H
                               clear H
                               have p115 : 0 ≤ (x27_2 : Int) := zD
                               have q115 : x27_2 < (l0.length : Int) := zD
                               obtain ⟨ad115, e115, hx115_0⟩ := Kd.at_int HR0.out x27_2 p115 q115
                               cases e115
                               replace hx115_0 := (HB.out.cell (World.block_lt_of_cell? w _ hx115_0)).trans hx115_0
                               replace p115 := eq_true p115
                               replace q115 := eq_true q115
                               go_wp2
                               go_roundg kj15
                               case measure => have := HK1.out; have := HK2.out; have := HJ15.out; omega
                               case rel => exact ⟨(x11_2), (x12_2), (wrap64 (x27_2 + 1)), zF, zF, zF, H', ⟨by have := HK1.out; have := HK2.out; have := HJ15.out; omega⟩, ⟨zR HO_8.out⟩, ⟨zR HO_9.out⟩, ⟨zB⟩⟩
                       · rw [if_neg c22] at H
                         exact absurd H (by simp)
                     · rw [if_neg c21] at H
                       exact absurd H (by simp)
             · rw [if_neg c15] at H
               exact absurd H (by simp)
           · rw [if_neg c14] at H
             exact absurd H (by simp)
         · rw [if_neg c13] at H
           have c13b0 : decide (x27_2 < (l0.length : Int)) = false := decide_eq_false c13
           clear c13
           by_cases c27 : x11_2 < 0
           · rw [if_pos c27] at H
             have c27b0 : decide (x11_2 < 0) = true := decide_eq_true c27
             clear c27
             simp only [Option.some.injEq, Prod.mk.injEq] at H
             obtain ⟨rfl, rfl⟩ := H
             go_wp2
             go_ret2
             exact ⟨_, zE, zN, zB⟩
           · rw [if_neg c27] at H
             have c27b0 : decide (x11_2 < 0) = false := decide_eq_false c27
             clear c27
             by_cases c28 : x12_2 < x10_1
             · rw [if_pos c28] at H
               have c28b0 : decide (x12_2 < x10_1) = true := decide_eq_true c28
               clear c28
               simp only [Option.some.injEq, Prod.mk.injEq] at H
               obtain ⟨rfl, rfl⟩ := H
               go_wp2
               go_ret2
               exact ⟨_, zE, zN, zB⟩
             · rw [if_neg c28] at H
               have c28b0 : decide (x12_2 < x10_1) = false := decide_eq_false c28
               clear c28
               by_cases c29 : 0 ≤ x11_2
               · rw [if_pos c29] at H
                 have c29b0 : decide (0 ≤ x11_2) = true := decide_eq_true c29
                 clear c29
                 by_cases c30 : x11_2 < (x9_1.length : Int)
                 · rw [if_pos c30] at H
                   have c30b0 : decide (x11_2 < (x9_1.length : Int)) = true := decide_eq_true c30
                   clear c30
                   obtain ⟨y108, hy108⟩ : ∃ y_ : List Int, y_ = (x9_1.set (x11_2 : Int).toNat (wrap64 ((rd x9_1 x11_2) + 1))) := ⟨_, rfl⟩
                   replace H : (if x8_1.length < 17592186044416 then (spec_l07Deadline.l0 k2 l0 a1 a2 (x8_1 ++ [x11_2]) y108 (wrap64 (x10_1 + 1))) else (none)) = some (r1, r2) := zH hy108
                   have Ny108 := Aside0.mk hy108
                   clear hy108
                   by_cases c32 : x8_1.length < 17592186044416
                   · rw [if_pos c32] at H
                     have LMc32 := Aside0.mk c32
                     clear c32
                     obtain ⟨y109, hy109⟩ : ∃ y_ : List Int, y_ = (x8_1 ++ [x11_2]) := ⟨_, rfl⟩
                     replace H : (spec_l07Deadline.l0 k2 l0 a1 a2 y109 y108 (wrap64 (x10_1 + 1))) = some (r1, r2) := zH hy109
                     have Ny109 := Aside0.mk hy109
                     clear hy109
                     have H' := Aside0.mk H
                     clear H
                     obtain ⟨Ao33, co33, eo33⟩ := Kd.R_slice HO_9.out
                     subst eo33
                     have p107 : 0 ≤ (x11_2 : Int) := zD
                     have q107 : x11_2 < (x9_1.length : Int) := zD
                     obtain ⟨ad107, e107, hx107_0⟩ := Kd.at_int (Kd.R_reads' HO_9.out).2.2 x11_2 p107 q107
                     cases e107
                     replace p107 := eq_true p107
                     replace q107 := eq_true q107
                     have p31 : 0 ≤ (x11_2 : Int) := zD
                     have q31 : (x11_2 : Int) < ((x9_1.length : Int) : Int) := zD
                     obtain ⟨go31, co31, eo31, gb31, gl31, cl31, HG31⟩ := Kd.R_form HO_9.out (by omega)
                     (first | cases eo31 | (injection eo31 with ea_ en_ ec_; (first | subst ea_ | (injection ea_ with ea_; subst ea_)); subst ec_; clear en_))
                     have GB31 := Aside0.mk gb31
                     have GG31 := Aside0.mk HG31
                     clear gb31 gl31 HG31
                     (first | simp only [add_plain] at hx107_0 | skip)
                     obtain ⟨hx31_0, hf31_0⟩ := Kd.R_celln 0 HO_9.out (x11_2 : Int) p31 q31
                     replace p31 := eq_true p31
                     replace q31 := eq_true q31
                     have HP34 := Kd.R_putg HO_9.out (x11_2 : Int) (wrap64 ((rd x9_1 x11_2) + 1))
                     go_wp2_with (first | ((with_reducible refine gate_store (t := 2) (p := 91) rfl ?_); refine store_event (t := 2) (p := 91) (v := ?vo_w35) (w1 := (wr.setCell ⟨go31, (x11_2 : Int).toNat, none⟩ (.int .i64 (wrap64 ((rd x9_1 x11_2) + 1))))) ?hg ?ho ?hn ?hr ?_; (case ho => rfl); (case hg => rfl); (case hn => rfl); (case hr => first | (go_simp; done) | (go_simp; rfl)); intro w35 hw; have hg : wr.grownBy w35 (some go31) := (by rw [hw]; exact HP34.2); have hp_ : Kd.R (Kd.int .i64) 2 w35 w.heap.size (fun k_ => some k_ ≠ (u8 : Value).ownBlock) (.slice (some ⟨go31, 0, none⟩) x9_1.length co33) y108 := (by rw [hw, Ny108.out]; exact HP34.1); clear HP34; have n_ := y3 (Kd.R_after (v := (.slice (some ⟨go31, 0, none⟩) x9_1.length co33)) (v1 := (.slice (some ⟨go31, 0, none⟩) x9_1.length co33)) (ok := (fun _ => True)) (by refine zR ?_; exact Kd.R_mono HO_8.out (fun _ hk => ⟨trivial, hk⟩)) hg (.inl rfl)) (hp_) ((by rw [hw]; exact below_set (HB.out) GB31.out : Below w.heap.size w w35)); clear HO_8 HO_9 HB; obtain ⟨HO_8, HO_9, HB⟩ := n_; clear hg hw hp_) | ((with_reducible refine gate_builtin (b := .append) (xs := #[.tmp 92, .tmp 94]) rfl ?_); at_builtin; refine Kd.R_append (Kd.int .i64) (w0 := w) w.heap.size rfl (.tmp 92) (.tmp 94) 24 2 (.int .i64 0) 8 rfl Try.underlying24 info2 rfl (by decide) (by omega) u8 x8_1 x11_2 [.int .i64 x11_2] (fun k_ => some k_ ≠ (.slice (some ⟨go31, 0, none⟩) x9_1.length co33 : Value).ownBlock) (fun _ => False) rfl rfl ?aP (fun _ hk => hk.elim) ?aF ?aO ?aB ?aS ?aL ?_; (case aP => exact rfl); (case aB => exact (zB)); (case aF => exact (fun k_ hk => Kd.fresh' (Kd.R_lt (zR HO_9.out)) k_ hk)); (case aO => exact (by refine zR ?_; exact Kd.R_mono HO_8.out (fun _ hk => hk.2))); (case aS => exact (below_size (zB))); (case aL => have := LMc32.out; omega); intro v110 w36 ho hb hg hat; rw [← Ny109.out] at ho; have n_ := y3 (Kd.R_after (ok := (fun _ => True)) (by refine zR ?_; exact Kd.R_mono HO_9.out (fun _ hk => ⟨trivial, hk⟩)) hg hat) (hb) (ho); clear HO_9 HB HO_8; obtain ⟨HO_9, HB, HO111⟩ := n_; clear ho hb hg hat))
                     go_roundg k2
                     case measure => have := HK1.out; have := HK2.out; omega
                     case rel => exact ⟨(y109), (y108), (wrap64 (x10_1 + 1)), zF, H', ⟨by have := HK1.out; have := HK2.out; omega⟩, ⟨zR HO111.out⟩, ⟨by refine zR ?_; exact Kd.R_mono HO_9.out (fun _ hk => hk.2)⟩, ⟨zB⟩⟩
                   · rw [if_neg c32] at H
                     exact absurd H (by simp)
                 · rw [if_neg c30] at H
                   exact absurd H (by simp)
               · rw [if_neg c29] at H
                 exact absurd H (by simp)
   · rw [if_neg c12] at H
     have c12b0 : decide (x10_1 ≤ a1) = false := decide_eq_false c12
     clear c12
     simp only [Option.some.injEq, Prod.mk.injEq] at H
     obtain ⟨rfl, rfl⟩ := H
     go_wp2
     go_ret2
     exact ⟨_, zE, by refine zR ?_; exact Kd.R_mono HO_8.out (fun _ hk => trivial), zB⟩
end Go.Proofs.Ytpmconnonleokaa.P
end
section
namespace Go.Proofs.Ytpmconnonleokaa.P
open Go.RowKit Go.Proofs.YtpmconnonleokaaW.PrintWords Go.Proofs.YtpmconnonleokaaW.PrintLast Go.Proofs.YtpmconnonleokaaW.PrintMore
attribute [local go_sem] max2_int min2_int max_two min_two max_three min_three max_four min_four   -- for this text's walks alone
set_option linter.unusedVariables false
set_option linter.unusedSimpArgs false
def spec_LeastDifference.l0 : Nat → List Int → Int → Int → Option (List Int × Int × Int)
  | 0, _, _, _ => none
  | k + 1, x0, x5, x6 => (spec_l07Deadline.f k x0 x5 x6).bind fun bt102 => (if bt102.2 = true then (some (bt102.1, x6, 0)) else (spec_LeastDifference.l0 k x0 x5 (wrap64 (x6 + 1))))
def spec_LeastDifference.f (k : Nat) (l0 : List Int) : Option (List Int × Int × Int) := (spec_l07Sum.f k l0).bind fun t101 => (if t101 = 0 then (some (([] : List Int), 0, 2)) else (spec_LeastDifference.l0 k l0 t101 0))
theorem spec_LeastDifference.mono_l : ∀ k, (∀ y0 y1 y2, LeO (spec_LeastDifference.l0 k y0 y1 y2) (spec_LeastDifference.l0 (k + 1) y0 y1 y2))
  | 0 => fun _ _ _ r h => by simp [spec_LeastDifference.l0] at h
  | k + 1 => by
    have ih0 := spec_LeastDifference.mono_l k
    · intro y0 y1 y2
      unfold spec_LeastDifference.l0
      repeat' first | (with_reducible exact ih0 _ _ _) | (with_reducible exact spec_l07Deadline.mono _ _ _ _) | (with_reducible exact spec_l07Sum.mono _ _) | (with_reducible exact LeO.refl _) | (with_reducible exact LeO.none _) | (with_reducible refine LeO.ite ?_ ?_) | (with_reducible refine LeO.bind ?_ (fun _ => ?_)) | exact ih0 _ _ _ | exact spec_l07Deadline.mono _ _ _ _ | exact spec_l07Sum.mono _ _ | exact LeO.none _ | refine LeO.ite ?_ ?_ | refine LeO.bind ?_ (fun _ => ?_)
theorem spec_LeastDifference.mono : ∀ a0 k, LeO (spec_LeastDifference.f k a0) (spec_LeastDifference.f (k + 1) a0) := by
  intro a0 k
  have ih0 := spec_LeastDifference.mono_l k
  unfold spec_LeastDifference.f
  repeat' first | (with_reducible exact ih0 _ _ _) | (with_reducible exact spec_l07Deadline.mono _ _ _ _) | (with_reducible exact spec_l07Sum.mono _ _) | (with_reducible exact LeO.refl _) | (with_reducible exact LeO.none _) | (with_reducible refine LeO.ite ?_ ?_) | (with_reducible refine LeO.bind ?_ (fun _ => ?_)) | exact ih0 _ _ _ | exact spec_l07Deadline.mono _ _ _ _ | exact spec_l07Sum.mono _ _ | exact LeO.none _ | refine LeO.ite ?_ ?_ | refine LeO.bind ?_ (fun _ => ?_)
set_option maxHeartbeats 8000000 in
set_option maxRecDepth 100000 in
theorem spec_LeastDifference.calls (k : Nat) (A0 : Option Addr) (c0 : Nat) (l0 : List Int) (r1 : List Int) (r2 : Int) (r3 : Int) (w : World) (hr0 : Kd.C (Kd.int .i64) w A0 l0.length l0) (hc0 : l0.length ≤ c0) (h : spec_LeastDifference.f k l0 = some (r1, r2, r3)) :
    Calls Try.prog 7 #[.slice A0 l0.length c0] w fun e w' => ∃ v0_ : Value, e = .returned (.tuple #[v0_, .int .i64 r2, .int .i64 r3]) ∧ Kd.R (Kd.int .i64) 2 w' w.heap.size (fun _ => True) v0_ r1 ∧ Below w.heap.size w w' := by
 have HR0 := Aside0.mk hr0
 have HC0 := Aside0.mk hc0
 clear hr0 hc0
 have HB := Aside0.mk (Below.refl w.heap.size w)
 have H : ((spec_l07Sum.f k l0).bind fun t101 => (if t101 = 0 then (some (([] : List Int), 0, 2)) else (spec_LeastDifference.l0 k l0 t101 0))) = some (r1, r2, r3) := h
 clear h
 replace H := Option.bind_eq_some_iff.mp H
 obtain ⟨t101, A20, H⟩ := H
 replace H : (if t101 = 0 then (some (([] : List Int), 0, 2)) else (spec_LeastDifference.l0 k l0 t101 0)) = some (r1, r2, r3) := H
 have A2 := Aside0.mk A20
 clear A20
 by_cases c3 : t101 = 0
 ·
  rw [if_pos c3] at H
  have c3b0 : (t101 == 0) = true := beq_iff_eq.mpr c3
  have c3b1 : (t101 != 0) = false := bne_eq_false_iff_eq.mpr c3
  clear c3
  simp only [Option.some.injEq, Prod.mk.injEq] at H
  obtain ⟨rfl, rfl, rfl⟩ := H
  go_enter Try.func7, Try.ntmps7
  go_wp2_with (first | ((with_reducible refine gate_callee (f := 28) rfl ?_); refine goesL_ (some 10) rfl rfl Try.func28 zk rfl #[.slice A0 l0.length c0] rfl zA ?_; (with_reducible refine (spec_l07Sum.calls k _ _ l0 t101 _ ?side1 ?side2 A2.out).mono ?_); (case side1 => exact zC HR0.out); (case side2 => exact HC0.out); rintro e w' ⟨rfl, ⟨nd, rfl⟩⟩; refine ⟨_, rfl, ?_⟩))
  go_ret3
  exact ⟨_, zE, zN, zB⟩
 rw [if_neg c3] at H
 have c3b0 : (t101 == 0) = false := beq_eq_false_iff_ne.mpr c3
 have c3b1 : (t101 != 0) = true := bne_iff_ne.mpr c3
 have H' := Aside0.mk H
 clear H
 go_enter Try.func7, Try.ntmps7
 go_wp2_with (first | ((with_reducible refine gate_callee (f := 28) rfl ?_); refine goesL_ (some 10) rfl rfl Try.func28 zk rfl #[.slice A0 l0.length c0] rfl zA ?_; (with_reducible refine (spec_l07Sum.calls k _ _ l0 t101 _ ?side1 ?side2 A2.out).mono ?_); (case side1 => exact zC HR0.out); (case side2 => exact HC0.out); rintro e w' ⟨rfl, ⟨nd, rfl⟩⟩; refine ⟨_, rfl, ?_⟩))
 go_loopg [6] k (fun kq v6 w' => ∃ (x6_1 : Int), v6 = .int .i64 x6_1 ∧ Aside0 (spec_LeastDifference.l0 kq l0 t101 x6_1 = some (r1, r2, r3)) ∧ Aside0 (kq ≤ k) ∧ Aside0 (Below w.heap.size w w'))
 case atStart => exact ⟨(0), zF, H', ⟨Nat.le_refl _⟩, ⟨zB⟩⟩
 clear H'
 try clear c3
 try clear c3b0
 try clear c3b1
 obtain ⟨x6_1, rfl, HA, HK1, HB⟩ := hrel
 cases gk with
 | zero => exact absurd HA.out (by simp [spec_LeastDifference.l0])
 | succ k1 =>
   have H := HA.out
   clear HA
   simp only [spec_LeastDifference.l0] at H
   replace H := Option.bind_eq_some_iff.mp H
   obtain ⟨⟨t102, t103⟩, A40, H⟩ := H
   replace H : (if t103 = true then (some (t102, x6_1, 0)) else (spec_LeastDifference.l0 k1 l0 t101 (wrap64 (x6_1 + 1)))) = some (r1, r2, r3) := H
   have A4 := Aside0.mk A40
   clear A40
   by_cases c5 : t103 = true
   · subst c5
     have H1 : (some (t102, x6_1, 0)) = some (r1, r2, r3) := by rw [if_pos rfl] at H; exact H
     clear H
     have H := H1
     clear H1
     simp only [Option.some.injEq, Prod.mk.injEq] at H
     obtain ⟨rfl, rfl, rfl⟩ := H
     go_wp2_with (first | ((with_reducible refine gate_callee (f := 29) rfl ?_); refine goesL_ (some 19) rfl rfl Try.func29 zk rfl #[.slice A0 l0.length c0, .int .i64 t101, .int .i64 x6_1] rfl zA ?_; (with_reducible refine (spec_l07Deadline.calls k1 _ _ l0 t101 x6_1 t102 true _ ?side1 ?side2 A4.out).mono ?_); (case side1 => exact zC (Kd.C_below HR0.out HB.out)); (case side2 => exact HC0.out); rintro e w6 ⟨v104, rfl, ho0, hb⟩; refine ⟨_, rfl, ?_⟩; have n_ := y2 (Kd.R_lower ho0 (below_size (zB))) (below_step (zB) hb); clear HB; obtain ⟨HO105, HB⟩ := n_; (try clear hb); (try clear hb2); (try clear hk); (try clear hi); (try clear ho0)))
     go_ret3
     exact ⟨_, zE, zR HO105.out, zB⟩
   · replace c5 := Bool.eq_false_iff.mpr c5
     subst c5
     have H1 : (spec_LeastDifference.l0 k1 l0 t101 (wrap64 (x6_1 + 1))) = some (r1, r2, r3) := by rw [if_neg (show ¬ (false = true) by decide)] at H; exact H
     clear H
     have H := H1
     clear H1
     have H' := Aside0.mk H
     clear H
     go_wp2_with (first | ((with_reducible refine gate_callee (f := 29) rfl ?_); refine goesL_ (some 19) rfl rfl Try.func29 zk rfl #[.slice A0 l0.length c0, .int .i64 t101, .int .i64 x6_1] rfl zA ?_; (with_reducible refine (spec_l07Deadline.calls k1 _ _ l0 t101 x6_1 t102 false _ ?side1 ?side2 A4.out).mono ?_); (case side1 => exact zC (Kd.C_below HR0.out HB.out)); (case side2 => exact HC0.out); rintro e w7 ⟨v104, rfl, ho0, hb⟩; refine ⟨_, rfl, ?_⟩; have n_ := y2 (Kd.R_lower ho0 (below_size (zB))) (below_step (zB) hb); clear HB; obtain ⟨HO105, HB⟩ := n_; (try clear hb); (try clear hb2); (try clear hk); (try clear hi); (try clear ho0)))
     go_roundg k1
     case measure => have := HK1.out; omega
     case rel => exact ⟨(wrap64 (x6_1 + 1)), zF, H', ⟨by have := HK1.out; omega⟩, ⟨zB⟩⟩
end Go.Proofs.Ytpmconnonleokaa.P
end
section
namespace Go.Proofs.Ytpmconnonleokaa.P
open Go.RowKit Go.Proofs.YtpmconnonleokaaW.PrintWords Go.Proofs.YtpmconnonleokaaW.PrintLast Go.Proofs.YtpmconnonleokaaW.PrintMore
attribute [local go_sem] max2_int min2_int max_two min_two max_three min_three max_four min_four   -- for this text's walks alone
set_option linter.unusedVariables false
set_option linter.unusedSimpArgs false
mutual
def impl_GreedyTurns.l0 : Nat → List Int → List Int → Int → List Int → Int → Int → Option (List Int × Int)
  | 0, _, _, _, _, _, _ => none
  | k + 1, x0, x4, x5, x6, x21, x22 => if x22 < x21 then (impl_GreedyTurns.l1 k x0 x4 x5 x6 x22 0 0 x21 x22 x0 (x0.length : Int) 0) else (some (x6, 0))
def impl_GreedyTurns.l1 : Nat → List Int → List Int → Int → List Int → Int → Int → Int → Int → Int → List Int → Int → Int → Option (List Int × Int)
  | 0, _, _, _, _, _, _, _, _, _, _, _, _ => none
  | k + 1, x0, x4, x5, x6, x7, x8, x9, x21, x22, x25, x26, x27 => if x27 < x26 then (if 0 ≤ x27 then (if x27 < (x25.length : Int) then (if x27 < (x4.length : Int) then (if x27 = 0 then (impl_GreedyTurns.l1 k x0 x4 x5 x6 x7 x27 (wrap64 ((wrap64 (x5 * (rd x4 x27))) - (wrap64 ((wrap64 (x7 + 1)) * (rd x25 x27))))) x21 x22 x25 x26 (wrap64 (x27 + 1))) else (if (wrap64 ((wrap64 (x5 * (rd x4 x27))) - (wrap64 ((wrap64 (x7 + 1)) * (rd x25 x27))))) < x9 then (impl_GreedyTurns.l1 k x0 x4 x5 x6 x7 x27 (wrap64 ((wrap64 (x5 * (rd x4 x27))) - (wrap64 ((wrap64 (x7 + 1)) * (rd x25 x27))))) x21 x22 x25 x26 (wrap64 (x27 + 1))) else (impl_GreedyTurns.l1 k x0 x4 x5 x6 x7 x8 x9 x21 x22 x25 x26 (wrap64 (x27 + 1))))) else (none)) else (none)) else (none)) else (if 0 ≤ x8 then (if x8 < (x4.length : Int) then (if x6.length < 17592186044416 then (impl_GreedyTurns.l0 k x0 (x4.set (x8 : Int).toNat (wrap64 ((rd x4 x8) + 1))) x5 (x6 ++ [x8]) x21 (wrap64 (x22 + 1))) else (none)) else (none)) else (none))
end
def impl_GreedyTurns.f (k : Nat) (l0 : List Int) : Option (List Int × Int) := (impl_areShares.f k l0).bind fun t101 => (if t101 = true then (if 0 ≤ (l0.length : Int) then (if ((l0.length : Int) : Int).toNat ≤ 35184372088832 then ((impl_total.f k l0).bind fun t105 => (impl_GreedyTurns.l0 k l0 (List.replicate ((l0.length : Int) : Int).toNat 0) t105 ([] : List Int) t105 0)) else (none)) else (none)) else (some (([] : List Int), 2)))
theorem impl_GreedyTurns.mono_l : ∀ k, (∀ y0 y1 y2 y3 y4 y5, LeO (impl_GreedyTurns.l0 k y0 y1 y2 y3 y4 y5) (impl_GreedyTurns.l0 (k + 1) y0 y1 y2 y3 y4 y5)) ∧ (∀ y0 y1 y2 y3 y4 y5 y6 y7 y8 y9 y10 y11, LeO (impl_GreedyTurns.l1 k y0 y1 y2 y3 y4 y5 y6 y7 y8 y9 y10 y11) (impl_GreedyTurns.l1 (k + 1) y0 y1 y2 y3 y4 y5 y6 y7 y8 y9 y10 y11))
  | 0 => ⟨fun _ _ _ _ _ _ r h => by simp [impl_GreedyTurns.l0] at h, fun _ _ _ _ _ _ _ _ _ _ _ _ r h => by simp [impl_GreedyTurns.l1] at h⟩
  | k + 1 => by
    obtain ⟨ih0, ih1⟩ := impl_GreedyTurns.mono_l k
    refine ⟨?_, ?_⟩ <;> intros <;> (first | unfold impl_GreedyTurns.l0 | unfold impl_GreedyTurns.l1) <;> repeat' first | (with_reducible exact ih0 _ _ _ _ _ _) | (with_reducible exact ih1 _ _ _ _ _ _ _ _ _ _ _ _) | (with_reducible exact impl_areShares.mono _ _) | (with_reducible exact impl_total.mono _ _) | (with_reducible exact LeO.refl _) | (with_reducible exact LeO.none _) | (with_reducible refine LeO.ite ?_ ?_) | (with_reducible refine LeO.bind ?_ (fun _ => ?_)) | exact ih0 _ _ _ _ _ _ | exact ih1 _ _ _ _ _ _ _ _ _ _ _ _ | exact impl_areShares.mono _ _ | exact impl_total.mono _ _ | exact LeO.none _ | refine LeO.ite ?_ ?_ | refine LeO.bind ?_ (fun _ => ?_)
theorem impl_GreedyTurns.mono : ∀ a0 k, LeO (impl_GreedyTurns.f k a0) (impl_GreedyTurns.f (k + 1) a0) := by
  intro a0 k
  obtain ⟨ih0, ih1⟩ := impl_GreedyTurns.mono_l k
  unfold impl_GreedyTurns.f
  repeat' first | (with_reducible exact ih0 _ _ _ _ _ _) | (with_reducible exact ih1 _ _ _ _ _ _ _ _ _ _ _ _) | (with_reducible exact impl_areShares.mono _ _) | (with_reducible exact impl_total.mono _ _) | (with_reducible exact LeO.refl _) | (with_reducible exact LeO.none _) | (with_reducible refine LeO.ite ?_ ?_) | (with_reducible refine LeO.bind ?_ (fun _ => ?_)) | exact ih0 _ _ _ _ _ _ | exact ih1 _ _ _ _ _ _ _ _ _ _ _ _ | exact impl_areShares.mono _ _ | exact impl_total.mono _ _ | exact LeO.none _ | refine LeO.ite ?_ ?_ | refine LeO.bind ?_ (fun _ => ?_)
set_option maxHeartbeats 8000000 in
set_option maxRecDepth 100000 in
theorem impl_GreedyTurns.calls (k : Nat) (A0 : Option Addr) (c0 : Nat) (l0 : List Int) (r1 : List Int) (r2 : Int) (w : World) (hr0 : Kd.C (Kd.int .i64) w A0 l0.length l0) (hc0 : l0.length ≤ c0) (h : impl_GreedyTurns.f k l0 = some (r1, r2)) :
    Calls Try.prog 8 #[.slice A0 l0.length c0] w fun e w' => ∃ v0_ : Value, e = .returned (.tuple #[v0_, .int .i64 r2]) ∧ Kd.R (Kd.int .i64) 2 w' w.heap.size (fun _ => True) v0_ r1 ∧ Below w.heap.size w w' := by
 have HR0 := Aside0.mk hr0
 have HC0 := Aside0.mk hc0
 clear hr0 hc0
 have HB := Aside0.mk (Below.refl w.heap.size w)
 have H : ((impl_areShares.f k l0).bind fun t101 => (if t101 = true then (if 0 ≤ (l0.length : Int) then (if ((l0.length : Int) : Int).toNat ≤ 35184372088832 then ((impl_total.f k l0).bind fun t105 => (impl_GreedyTurns.l0 k l0 (List.replicate ((l0.length : Int) : Int).toNat 0) t105 ([] : List Int) t105 0)) else (none)) else (none)) else (some (([] : List Int), 2)))) = some (r1, r2) := h
 clear h
 replace H := Option.bind_eq_some_iff.mp H
 obtain ⟨t101, A20, H⟩ := H
 replace H : (if t101 = true then (if 0 ≤ (l0.length : Int) then (if ((l0.length : Int) : Int).toNat ≤ 35184372088832 then ((impl_total.f k l0).bind fun t105 => (impl_GreedyTurns.l0 k l0 (List.replicate ((l0.length : Int) : Int).toNat 0) t105 ([] : List Int) t105 0)) else (none)) else (none)) else (some (([] : List Int), 2))) = some (r1, r2) := H
 have A2 := Aside0.mk A20
 clear A20
 by_cases c3 : t101 = true
 ·
  subst c3
  have H1 : (if 0 ≤ (l0.length : Int) then (if ((l0.length : Int) : Int).toNat ≤ 35184372088832 then ((impl_total.f k l0).bind fun t105 => (impl_GreedyTurns.l0 k l0 (List.replicate ((l0.length : Int) : Int).toNat 0) t105 ([] : List Int) t105 0)) else (none)) else (none)) = some (r1, r2) := by rw [if_pos rfl] at H; exact H
  clear H
  have H := H1
  clear H1
  by_cases c4 : 0 ≤ (l0.length : Int)
  case neg => rw [if_neg c4] at H; exact absurd H (by simp)
  rw [if_pos c4] at H
  have c4b0 := eq_true c4
  have c4b1 : decide (0 ≤ (l0.length : Int)) = true := decide_eq_true c4
  clear c4
  by_cases c5 : ((l0.length : Int) : Int).toNat ≤ 35184372088832
  case neg => rw [if_neg c5] at H; exact absurd H (by simp)
  rw [if_pos c5] at H
  have c5b0 := eq_true c5
  have c5b1 : decide (((l0.length : Int) : Int).toNat ≤ 35184372088832) = true := decide_eq_true c5
  clear c5
  obtain ⟨y102, hy102⟩ : ∃ y_ : List Int, y_ = (List.replicate ((l0.length : Int) : Int).toNat 0) := ⟨_, rfl⟩
  replace H : ((impl_total.f k l0).bind fun t105 => (impl_GreedyTurns.l0 k l0 y102 t105 ([] : List Int) t105 0)) = some (r1, r2) := zH hy102
  have Ny102 := Aside0.mk hy102
  clear hy102
  replace H := Option.bind_eq_some_iff.mp H
  obtain ⟨t105, A60, H⟩ := H
  replace H : (impl_GreedyTurns.l0 k l0 y102 t105 ([] : List Int) t105 0) = some (r1, r2) := H
  have A6 := Aside0.mk A60
  clear A60
  have H' := Aside0.mk H
  clear H
  go_enter Try.func8, Try.ntmps8
  try go_wp2_with (first | ((with_reducible refine gate_callee (f := 26) rfl ?_); refine goesL_ (some 14) rfl rfl Try.func26 zk rfl #[.slice A0 l0.length c0] rfl zA ?_; (with_reducible refine (impl_areShares.calls k _ _ l0 true _ ?side1 ?side2 A2.out).mono ?_); (case side1 => exact zC HR0.out); (case side2 => exact HC0.out); rintro e w7 ⟨rfl, hb⟩; refine ⟨_, rfl, ?_⟩; replace HB := Aside0.mk (below_step (zB) hb); (try clear hb); (try clear hb2); (try clear hk); (try clear hi)))
  replace HB := Aside0.mk (below_drew1 HB.out)
  refine start_ (n := 7) (S := fun w' => True) (ds := []) #[false,false,false,false,false,false,false] zk rfl rfl trivial (fun hHeld => ?_)
  generalize w7.drew = w8 at HB hHeld ⊢
  refine pure_ (i := 0) (N := some 16) (v := ?_) (a' := ?_) #[true,false,false,false,false,false,false] rfl rfl zk (fun _ _ _ h => h) (Or.inl ⟨by rfl, ?_⟩) ?_ ?_
  rotate_left; exact zp; rotate_left; exact zq
  refine pure_ (i := 1) (N := some 17) (v := ?_) (a' := ?_) #[true,true,false,false,false,false,false] rfl rfl zk (fun _ _ _ h => h) (Or.inl ⟨by rfl, ?_⟩) ?_ ?_
  rotate_left; exact zp; rotate_left; exact zq
  refine pure_ (i := 3) (N := some 19) (v := ?_) (a' := ?_) #[true,true,false,true,false,false,false] rfl rfl zk (fun _ _ _ h => h) (Or.inl ⟨by rfl, ?_⟩) ?_ ?_
  rotate_left; exact zp; rotate_left; exact zq
  refine join_ (σ := Value) 2 #[true,true,true,true,true,false,false] (fun s_ => [(18, s_), (20, .int .i64 t105)]) (fun s_ w' => (Kd.R (Kd.int .i64) 2 w' w.heap.size (fun _ => True) s_ y102) ∧ (Below w.heap.size w w')) ?_ ?_
  rotate_left
  ·
   intro hCont
   refine two_ (i := 2) (j := 4) (Ni := some 18) (Nj := some 20) #[true,true,true,true,false,false,false] #[true,true,false,true,true,false,false] rfl rfl rfl rfl zk (by decide) (by decide) (fun K hK => ?_) (fun K hK => ?_)
   ·
    skip
    refine Kd.R_make_step (Kd.int .i64) _ 2 (by rfl) (N := 18) rfl 24 _ _ rfl (l0.length : Int) rfl rfl Try.underlying24 (.int .i64 0) 8 info2 rfl (by decide) (by omega) 0 (ok := fun _ => True) (okp := fun _ => True) rfl (fun _ hk => hk) trivial (zD) (Nat.le_trans (Nat.mul_le_mul_right _ (zD : (l0.length : Int).toNat ≤ 35184372088832)) (by omega)) (Below.refl _ _) (Nat.le_refl _) ?_
    intro v103 w9 ho10 hb hg_ hnew_
    clear hg_ hnew_
    (first | rw [← Ny102.out] at ho10 | (simp only [Int.reduceToNat] at ho10; rw [← Ny102.out] at ho10))
    have n_ := y2 (Kd.R_lower ho10 (below_size (zB))) (below_step (zB) hb)
    clear HB
    obtain ⟨HO104, HB⟩ := n_
    clear hb ho10
    refine hK.out _ _ trivial (fun hHeld => ?_)
    clear hK K
    refine norm_ (a' := ?_) ?_ ?_
    rotate_left
    ·
     show Act.put _ (some 18) _ = _
     simp only [Act.put, List.setIfInBounds_toArray, List.set_cons_zero, List.set_cons_succ, i64_w, i32_w]
     rfl
    refine one_ (i := 4) (N := some 20) #[true,true,true,true,true,false,false] rfl rfl zk (by decide) (fun K hK => ?_)
    refine goes_ Try.func30 zk rfl #[.slice A0 l0.length c0] (by rfl) rfl rfl zA ?_
    with_reducible refine (impl_total.calls k _ _ l0 t105 _ ?side1 ?side2 A6.out).mono ?_
    (case side1 => exact zC (Kd.C_below HR0.out HB.out))
    (case side2 => exact HC0.out)
    rintro e w' ⟨rfl, ⟨nd, rfl⟩⟩
    refine ⟨_, rfl, ?_⟩
    refine hK.out _ _ trivial (fun hHeld => ?_)
    clear hK K
    refine norm_ (a' := ?_) ?_ ?_
    rotate_left
    ·
     show Act.put _ (some 20) _ = _
     simp only [Act.put, List.setIfInBounds_toArray, List.set_cons_zero, List.set_cons_succ, i64_w, i32_w]
     rfl
    exact norm_ (by simp only [putAll, Act.put, List.setIfInBounds_toArray, List.set_cons_zero, List.set_cons_succ]) (hCont (v103) _ ⟨(zR HO104.out), (zB)⟩)
   skip
   refine goes_ Try.func30 zk rfl #[.slice A0 l0.length c0] (by rfl) rfl rfl zA ?_
   with_reducible refine (impl_total.calls k _ _ l0 t105 _ ?side1 ?side2 A6.out).mono ?_
   (case side1 => exact zC (Kd.C_below HR0.out HB.out))
   (case side2 => exact HC0.out)
   rintro e w' ⟨rfl, ⟨nd, rfl⟩⟩
   refine ⟨_, rfl, ?_⟩
   refine hK.out _ _ trivial (fun hHeld => ?_)
   clear hK K
   refine norm_ (a' := ?_) ?_ ?_
   rotate_left
   ·
    show Act.put _ (some 20) _ = _
    simp only [Act.put, List.setIfInBounds_toArray, List.set_cons_zero, List.set_cons_succ, i64_w, i32_w]
    rfl
   refine one_ (i := 2) (N := some 18) #[true,true,true,true,true,false,false] rfl rfl zk (by decide) (fun K hK => ?_)
   refine Kd.R_make_step (Kd.int .i64) _ 2 (by rfl) (N := 18) rfl 24 _ _ rfl (l0.length : Int) rfl rfl Try.underlying24 (.int .i64 0) 8 info2 rfl (by decide) (by omega) 0 (ok := fun _ => True) (okp := fun _ => True) rfl (fun _ hk => hk) trivial (zD) (Nat.le_trans (Nat.mul_le_mul_right _ (zD : (l0.length : Int).toNat ≤ 35184372088832)) (by omega)) (Below.refl _ _) (Nat.le_refl _) ?_
   intro v103 w9 ho10 hb hg_ hnew_
   clear hg_ hnew_
   (first | rw [← Ny102.out] at ho10 | (simp only [Int.reduceToNat] at ho10; rw [← Ny102.out] at ho10))
   have n_ := y2 (Kd.R_lower ho10 (below_size (zB))) (below_step (zB) hb)
   clear HB
   obtain ⟨HO104, HB⟩ := n_
   clear hb ho10
   refine hK.out _ _ trivial (fun hHeld => ?_)
   clear hK K
   refine norm_ (a' := ?_) ?_ ?_
   rotate_left
   ·
    show Act.put _ (some 18) _ = _
    simp only [Act.put, List.setIfInBounds_toArray, List.set_cons_zero, List.set_cons_succ, i64_w, i32_w]
    rfl
   exact norm_ (by simp only [putAll, Act.put, List.setIfInBounds_toArray, List.set_cons_zero, List.set_cons_succ]) (hCont (v103) _ ⟨(zR HO104.out), (zB)⟩)
  rintro v103 w11 ⟨h0_, h1_⟩
  have n0_ : Aside0 (Kd.R (Kd.int .i64) 2 w11 w.heap.size (fun _ => True) v103 y102) := ⟨h0_⟩
  have n1_ : Aside0 (Below w.heap.size w w11) := ⟨h1_⟩
  clear HB
  clear h0_ h1_
  have HO104 := n0_
  have HB := n1_
  clear n0_ n1_
  have hHeld := trivial
  refine norm_ (a' := ?_) ?_ ?_
  rotate_left
  ·
   simp only [putAll, Act.put, List.setIfInBounds_toArray, List.set_cons_zero, List.set_cons_succ]
   rfl
  refine pure_ (i := 5) (N := some 4) (v := ?_) (a' := ?_) #[true,true,true,true,true,true,false] rfl rfl zk (fun _ _ _ h => h) (Or.inl ⟨by rfl, ?_⟩) ?_ ?_
  rotate_left; exact zp; rotate_left; exact zq
  refine pure_ (i := 6) (N := some 5) (v := ?_) (a' := ?_) #[true,true,true,true,true,true,true] rfl rfl zk (fun _ _ _ h => h) (Or.inl ⟨by rfl, ?_⟩) ?_ ?_
  rotate_left; exact zp; rotate_left; exact zq
  refine done_ zk ?_
  try go_wp2
  go_loopg [6, 22] k (fun kq v6 v22 w' => ∃ (x4_1 : List Int) (x6_1 : List Int) (x22_1 : Int), v22 = .int .i64 x22_1 ∧ Aside0 (impl_GreedyTurns.l0 kq l0 x4_1 t105 x6_1 t105 x22_1 = some (r1, r2)) ∧ Aside0 (kq ≤ k) ∧ Aside0 (Kd.R (Kd.int .i64) 2 w' w.heap.size (fun k_ => some k_ ≠ (v6 : Value).ownBlock) v103 x4_1) ∧ Aside0 (Kd.R (Kd.int .i64) 2 w' w.heap.size (fun k_ => some k_ ≠ (v103 : Value).ownBlock) v6 x6_1) ∧ Aside0 (Below w.heap.size w w'))
  case atStart => exact ⟨(y102), (([] : List Int)), (0), zF, H', ⟨Nat.le_refl _⟩, ⟨by refine zR ?_; exact Kd.R_mono HO104.out (fun _ hk => (by simp [Value.ownBlock]))⟩, ⟨zN⟩, ⟨zB⟩⟩
  clear H'
  try clear c3
  try clear c4
  try clear c4b0
  try clear c4b1
  try clear c5
  try clear c5b0
  try clear c5b1
  obtain ⟨x4_1, x6_1, x22_1, rfl, HA, HK1, HO_4, HO_6, HB⟩ := hrel
  cases gk with
  | zero => exact absurd HA.out (by simp [impl_GreedyTurns.l0])
  | succ k1 =>
    have H := HA.out
    clear HA
    simp only [impl_GreedyTurns.l0] at H
    by_cases c12 : x22_1 < t105
    · rw [if_pos c12] at H
      have c12b0 : decide (x22_1 < t105) = true := decide_eq_true c12
      clear c12
      have H' := Aside0.mk H
      clear H
      go_wp2
      go_loopg [8, 9, 27] k1 (fun kq v8 v9 v27 w' => ∃ (x8_2 : Int) (x9_2 : Int) (x27_2 : Int), v8 = .int .i64 x8_2 ∧ v9 = .int .i64 x9_2 ∧ v27 = .int .i64 x27_2 ∧ Aside0 (impl_GreedyTurns.l1 kq l0 x4_1 t105 x6_1 x22_1 x8_2 x9_2 t105 x22_1 l0 (l0.length : Int) x27_2 = some (r1, r2)) ∧ Aside0 (kq ≤ k1) ∧ Aside0 (Kd.R (Kd.int .i64) 2 w' w.heap.size (fun k_ => some k_ ≠ (u6 : Value).ownBlock) v103 x4_1) ∧ Aside0 (Kd.R (Kd.int .i64) 2 w' w.heap.size (fun k_ => some k_ ≠ (v103 : Value).ownBlock) u6 x6_1) ∧ Aside0 (Below w.heap.size w w'))
      case atStart => exact ⟨(0), (0), (0), zF, zF, zF, H', ⟨Nat.le_refl _⟩, ⟨zR HO_4.out⟩, ⟨zR HO_6.out⟩, ⟨zB⟩⟩
      case round =>
        clear H'
        try clear c3
        try clear c4
        try clear c4b0
        try clear c4b1
        try clear c5
        try clear c5b0
        try clear c5b1
        try clear c12
        try clear c12b0
        obtain ⟨x8_2, x9_2, x27_2, rfl, rfl, rfl, HA, HK2, HO_4, HO_6, HB⟩ := hrel
        cases gk with
        | zero => exact absurd HA.out (by simp [impl_GreedyTurns.l1])
        | succ k2 =>
          have H := HA.out
          clear HA
          simp only [impl_GreedyTurns.l1] at H
          by_cases c13 : x27_2 < (l0.length : Int)
          · rw [if_pos c13] at H
            have c13b0 : decide (x27_2 < (l0.length : Int)) = true := decide_eq_true c13
            clear c13
            by_cases c14 : 0 ≤ x27_2
            · rw [if_pos c14] at H
              have c14b0 : decide (0 ≤ x27_2) = true := decide_eq_true c14
              clear c14
              by_cases c15 : x27_2 < (l0.length : Int)
              · rw [if_pos c15] at H
                have c15b0 : decide (x27_2 < (l0.length : Int)) = true := decide_eq_true c15
                clear c15
                by_cases c16 : x27_2 < (x4_1.length : Int)
                · rw [if_pos c16] at H
                  have c16b0 : decide (x27_2 < (x4_1.length : Int)) = true := decide_eq_true c16
                  clear c16
                  by_cases c17 : x27_2 = 0
                  · rw [if_pos c17] at H
                    have c17b0 : (x27_2 == 0) = true := beq_iff_eq.mpr c17
                    have c17b1 : (x27_2 != 0) = false := bne_eq_false_iff_eq.mpr c17
                    clear c17
                    have H' := Aside0.mk H
                    clear H
                    have p106 : 0 ≤ (x27_2 : Int) := zD
                    have q106 : x27_2 < (l0.length : Int) := zD
                    obtain ⟨ad106, e106, hx106_0⟩ := Kd.at_int HR0.out x27_2 p106 q106
                    cases e106
                    replace hx106_0 := (HB.out.cell (World.block_lt_of_cell? w _ hx106_0)).trans hx106_0
                    replace p106 := eq_true p106
                    replace q106 := eq_true q106
                    obtain ⟨Ao18, co18, eo18⟩ := Kd.R_slice HO_4.out
                    subst eo18
                    have p107 : 0 ≤ (x27_2 : Int) := zD
                    have q107 : x27_2 < (x4_1.length : Int) := zD
                    obtain ⟨ad107, e107, hx107_0⟩ := Kd.at_int (Kd.R_reads' HO_4.out).2.2 x27_2 p107 q107
                    cases e107
                    replace p107 := eq_true p107
                    replace q107 := eq_true q107
                    go_wp2
                    go_roundg k2
                    case measure => have := HK1.out; have := HK2.out; omega
                    case rel => exact ⟨(x27_2), (wrap64 ((wrap64 (t105 * (rd x4_1 x27_2))) - (wrap64 ((wrap64 (x22_1 + 1)) * (rd l0 x27_2))))), (wrap64 (x27_2 + 1)), zF, zF, zF, H', ⟨by have := HK1.out; have := HK2.out; omega⟩, ⟨zR HO_4.out⟩, ⟨zR HO_6.out⟩, ⟨zB⟩⟩
                  · rw [if_neg c17] at H
                    have c17b0 : (x27_2 == 0) = false := beq_eq_false_iff_ne.mpr c17
                    have c17b1 : (x27_2 != 0) = true := bne_iff_ne.mpr c17
                    by_cases c19 : (wrap64 ((wrap64 (t105 * (rd x4_1 x27_2))) - (wrap64 ((wrap64 (x22_1 + 1)) * (rd l0 x27_2))))) < x9_2
                    · rw [if_pos c19] at H
                      have c19b0 : decide ((wrap64 ((wrap64 (t105 * (rd x4_1 x27_2))) - (wrap64 ((wrap64 (x22_1 + 1)) * (rd l0 x27_2))))) < x9_2) = true := decide_eq_true c19
                      clear c19
                      have H' := Aside0.mk H
                      clear H
                      have p106 : 0 ≤ (x27_2 : Int) := zD
                      have q106 : x27_2 < (l0.length : Int) := zD
                      obtain ⟨ad106, e106, hx106_0⟩ := Kd.at_int HR0.out x27_2 p106 q106
                      cases e106
                      replace hx106_0 := (HB.out.cell (World.block_lt_of_cell? w _ hx106_0)).trans hx106_0
                      replace p106 := eq_true p106
                      replace q106 := eq_true q106
                      obtain ⟨Ao20, co20, eo20⟩ := Kd.R_slice HO_4.out
                      subst eo20
                      have p107 : 0 ≤ (x27_2 : Int) := zD
                      have q107 : x27_2 < (x4_1.length : Int) := zD
                      obtain ⟨ad107, e107, hx107_0⟩ := Kd.at_int (Kd.R_reads' HO_4.out).2.2 x27_2 p107 q107
                      cases e107
                      replace p107 := eq_true p107
                      replace q107 := eq_true q107
                      go_wp2
                      go_roundg k2
                      case measure => have := HK1.out; have := HK2.out; omega
                      case rel => exact ⟨(x27_2), (wrap64 ((wrap64 (t105 * (rd x4_1 x27_2))) - (wrap64 ((wrap64 (x22_1 + 1)) * (rd l0 x27_2))))), (wrap64 (x27_2 + 1)), zF, zF, zF, H', ⟨by have := HK1.out; have := HK2.out; omega⟩, ⟨zR HO_4.out⟩, ⟨zR HO_6.out⟩, ⟨zB⟩⟩
                    · rw [if_neg c19] at H
                      have c19b0 : decide ((wrap64 ((wrap64 (t105 * (rd x4_1 x27_2))) - (wrap64 ((wrap64 (x22_1 + 1)) * (rd l0 x27_2))))) < x9_2) = false := decide_eq_false c19
                      clear c19
                      have H' := Aside0.mk H
                      clear H
                      have p106 : 0 ≤ (x27_2 : Int) := zD
                      have q106 : x27_2 < (l0.length : Int) := zD
                      obtain ⟨ad106, e106, hx106_0⟩ := Kd.at_int HR0.out x27_2 p106 q106
                      cases e106
                      replace hx106_0 := (HB.out.cell (World.block_lt_of_cell? w _ hx106_0)).trans hx106_0
                      replace p106 := eq_true p106
                      replace q106 := eq_true q106
                      obtain ⟨Ao21, co21, eo21⟩ := Kd.R_slice HO_4.out
                      subst eo21
                      have p107 : 0 ≤ (x27_2 : Int) := zD
                      have q107 : x27_2 < (x4_1.length : Int) := zD
                      obtain ⟨ad107, e107, hx107_0⟩ := Kd.at_int (Kd.R_reads' HO_4.out).2.2 x27_2 p107 q107
                      cases e107
                      replace p107 := eq_true p107
                      replace q107 := eq_true q107
                      go_wp2
                      go_roundg k2
                      case measure => have := HK1.out; have := HK2.out; omega
                      case rel => exact ⟨(x8_2), (x9_2), (wrap64 (x27_2 + 1)), zF, zF, zF, H', ⟨by have := HK1.out; have := HK2.out; omega⟩, ⟨zR HO_4.out⟩, ⟨zR HO_6.out⟩, ⟨zB⟩⟩
                · rw [if_neg c16] at H
                  exact absurd H (by simp)
              · rw [if_neg c15] at H
                exact absurd H (by simp)
            · rw [if_neg c14] at H
              exact absurd H (by simp)
          · rw [if_neg c13] at H
            have c13b0 : decide (x27_2 < (l0.length : Int)) = false := decide_eq_false c13
            clear c13
            by_cases c22 : 0 ≤ x8_2
            · rw [if_pos c22] at H
              have c22b0 : decide (0 ≤ x8_2) = true := decide_eq_true c22
              clear c22
              by_cases c23 : x8_2 < (x4_1.length : Int)
              · rw [if_pos c23] at H
                have c23b0 : decide (x8_2 < (x4_1.length : Int)) = true := decide_eq_true c23
                clear c23
                obtain ⟨y109, hy109⟩ : ∃ y_ : List Int, y_ = (x4_1.set (x8_2 : Int).toNat (wrap64 ((rd x4_1 x8_2) + 1))) := ⟨_, rfl⟩
                replace H : (if x6_1.length < 17592186044416 then (impl_GreedyTurns.l0 k2 l0 y109 t105 (x6_1 ++ [x8_2]) t105 (wrap64 (x22_1 + 1))) else (none)) = some (r1, r2) := zH hy109
                have Ny109 := Aside0.mk hy109
                clear hy109
                by_cases c25 : x6_1.length < 17592186044416
                · rw [if_pos c25] at H
                  have LMc25 := Aside0.mk c25
                  clear c25
                  obtain ⟨y110, hy110⟩ : ∃ y_ : List Int, y_ = (x6_1 ++ [x8_2]) := ⟨_, rfl⟩
                  replace H : (impl_GreedyTurns.l0 k2 l0 y109 t105 y110 t105 (wrap64 (x22_1 + 1))) = some (r1, r2) := zH hy110
                  have Ny110 := Aside0.mk hy110
                  clear hy110
                  have H' := Aside0.mk H
                  clear H
                  obtain ⟨Ao26, co26, eo26⟩ := Kd.R_slice HO_4.out
                  subst eo26
                  have p108 : 0 ≤ (x8_2 : Int) := zD
                  have q108 : x8_2 < (x4_1.length : Int) := zD
                  obtain ⟨ad108, e108, hx108_0⟩ := Kd.at_int (Kd.R_reads' HO_4.out).2.2 x8_2 p108 q108
                  cases e108
                  replace p108 := eq_true p108
                  replace q108 := eq_true q108
                  have p24 : 0 ≤ (x8_2 : Int) := zD
                  have q24 : (x8_2 : Int) < ((x4_1.length : Int) : Int) := zD
                  obtain ⟨go24, co24, eo24, gb24, gl24, cl24, HG24⟩ := Kd.R_form HO_4.out (by omega)
                  (first | cases eo24 | (injection eo24 with ea_ en_ ec_; (first | subst ea_ | (injection ea_ with ea_; subst ea_)); subst ec_; clear en_))
                  have GB24 := Aside0.mk gb24
                  have GG24 := Aside0.mk HG24
                  clear gb24 gl24 HG24
                  (first | simp only [add_plain] at hx108_0 | skip)
                  obtain ⟨hx24_0, hf24_0⟩ := Kd.R_celln 0 HO_4.out (x8_2 : Int) p24 q24
                  replace p24 := eq_true p24
                  replace q24 := eq_true q24
                  have HP27 := Kd.R_putg HO_4.out (x8_2 : Int) (wrap64 ((rd x4_1 x8_2) + 1))
                  go_wp2_with (first | ((with_reducible refine gate_store (t := 2) (p := 58) rfl ?_); refine store_event (t := 2) (p := 58) (v := ?vo_w28) (w1 := (wr.setCell ⟨go24, (x8_2 : Int).toNat, none⟩ (.int .i64 (wrap64 ((rd x4_1 x8_2) + 1))))) ?hg ?ho ?hn ?hr ?_; (case ho => rfl); (case hg => rfl); (case hn => rfl); (case hr => first | (go_simp; done) | (go_simp; rfl)); intro w28 hw; have hg : wr.grownBy w28 (some go24) := (by rw [hw]; exact HP27.2); have hp_ : Kd.R (Kd.int .i64) 2 w28 w.heap.size (fun k_ => some k_ ≠ (u6 : Value).ownBlock) (.slice (some ⟨go24, 0, none⟩) x4_1.length co26) y109 := (by rw [hw, Ny109.out]; exact HP27.1); clear HP27; have n_ := y3 (hp_) (Kd.R_after (v := (.slice (some ⟨go24, 0, none⟩) x4_1.length co26)) (v1 := (.slice (some ⟨go24, 0, none⟩) x4_1.length co26)) (ok := (fun _ => True)) (by refine zR ?_; exact Kd.R_mono HO_6.out (fun _ hk => ⟨trivial, hk⟩)) hg (.inl rfl)) ((by rw [hw]; exact below_set (HB.out) GB24.out : Below w.heap.size w w28)); clear HO_4 HO_6 HB; obtain ⟨HO_4, HO_6, HB⟩ := n_; clear hg hw hp_) | ((with_reducible refine gate_builtin (b := .append) (xs := #[.tmp 59, .tmp 61]) rfl ?_); at_builtin; refine Kd.R_append (Kd.int .i64) (w0 := w) w.heap.size rfl (.tmp 59) (.tmp 61) 24 2 (.int .i64 0) 8 rfl Try.underlying24 info2 rfl (by decide) (by omega) u6 x6_1 x8_2 [.int .i64 x8_2] (fun k_ => some k_ ≠ (.slice (some ⟨go24, 0, none⟩) x4_1.length co26 : Value).ownBlock) (fun _ => False) rfl rfl ?aP (fun _ hk => hk.elim) ?aF ?aO ?aB ?aS ?aL ?_; (case aP => exact rfl); (case aB => exact (zB)); (case aF => exact (fun k_ hk => Kd.fresh' (Kd.R_lt (zR HO_4.out)) k_ hk)); (case aO => exact (by refine zR ?_; exact Kd.R_mono HO_6.out (fun _ hk => hk.2))); (case aS => exact (below_size (zB))); (case aL => have := LMc25.out; omega); intro v111 w29 ho hb hg hat; rw [← Ny110.out] at ho; have n_ := y3 (Kd.R_after (ok := (fun _ => True)) (by refine zR ?_; exact Kd.R_mono HO_4.out (fun _ hk => ⟨trivial, hk⟩)) hg hat) (hb) (ho); clear HO_4 HB HO_6; obtain ⟨HO_4, HB, HO112⟩ := n_; clear ho hb hg hat))
                  go_roundg k2
                  case measure => have := HK1.out; have := HK2.out; omega
                  case rel => exact ⟨(y109), (y110), (wrap64 (x22_1 + 1)), zF, H', ⟨by have := HK1.out; have := HK2.out; omega⟩, ⟨by refine zR ?_; exact Kd.R_mono HO_4.out (fun _ hk => hk.2)⟩, ⟨zR HO112.out⟩, ⟨zB⟩⟩
                · rw [if_neg c25] at H
                  exact absurd H (by simp)
              · rw [if_neg c23] at H
                exact absurd H (by simp)
            · rw [if_neg c22] at H
              exact absurd H (by simp)
    · rw [if_neg c12] at H
      have c12b0 : decide (x22_1 < t105) = false := decide_eq_false c12
      clear c12
      simp only [Option.some.injEq, Prod.mk.injEq] at H
      obtain ⟨rfl, rfl⟩ := H
      go_wp2
      go_ret2
      exact ⟨_, zE, by refine zR ?_; exact Kd.R_mono HO_6.out (fun _ hk => trivial), zB⟩
 replace c3 := Bool.eq_false_iff.mpr c3
 subst c3
 have H1 : (some (([] : List Int), 2)) = some (r1, r2) := by rw [if_neg (show ¬ (false = true) by decide)] at H; exact H
 clear H
 have H := H1
 clear H1
 simp only [Option.some.injEq, Prod.mk.injEq] at H
 obtain ⟨rfl, rfl⟩ := H
 go_enter Try.func8, Try.ntmps8
 go_wp2_with (first | ((with_reducible refine gate_callee (f := 26) rfl ?_); refine goesL_ (some 14) rfl rfl Try.func26 zk rfl #[.slice A0 l0.length c0] rfl zA ?_; (with_reducible refine (impl_areShares.calls k _ _ l0 false _ ?side1 ?side2 A2.out).mono ?_); (case side1 => exact zC HR0.out); (case side2 => exact HC0.out); rintro e w30 ⟨rfl, hb⟩; refine ⟨_, rfl, ?_⟩; replace HB := Aside0.mk (below_step (zB) hb); (try clear hb); (try clear hb2); (try clear hk); (try clear hi)))
 go_ret2
 exact ⟨_, zE, zN, zB⟩
end Go.Proofs.Ytpmconnonleokaa.P
end
section
namespace Go.Proofs.Ytpmconnonleokaa.P
open Go.RowKit Go.Proofs.YtpmconnonleokaaW.PrintWords Go.Proofs.YtpmconnonleokaaW.PrintLast Go.Proofs.YtpmconnonleokaaW.PrintMore
attribute [local go_sem] max2_int min2_int max_two min_two max_three min_three max_four min_four   -- for this text's walks alone
set_option linter.unusedVariables false
set_option linter.unusedSimpArgs false
mutual
def spec_GreedyTurns.l0 : Nat → List Int → Int → List Int → List Int → Int → Option (List Int × Int)
  | 0, _, _, _, _, _ => none
  | k + 1, x0, x4, x5, x6, x7 => if x7 < x4 then (spec_GreedyTurns.l1 k x0 x4 x5 x6 x7 0 (x0.length : Int) 0) else (some (x5, 0))
def spec_GreedyTurns.l1 : Nat → List Int → Int → List Int → List Int → Int → Int → Int → Int → Option (List Int × Int)
  | 0, _, _, _, _, _, _, _, _ => none
  | k + 1, x0, x4, x5, x6, x7, x8, x24, x25 => if x25 < x24 then (if 0 ≤ x25 then (if x25 < (x6.length : Int) then (if x25 < (x0.length : Int) then (if 0 ≤ x8 then (if x8 < (x6.length : Int) then (if x8 < (x0.length : Int) then (if (wrap64 ((wrap64 (x4 * (rd x6 x25))) - (wrap64 ((wrap64 (x7 + 1)) * (rd x0 x25))))) < (wrap64 ((wrap64 (x4 * (rd x6 x8))) - (wrap64 ((wrap64 (x7 + 1)) * (rd x0 x8))))) then (spec_GreedyTurns.l1 k x0 x4 x5 x6 x7 x25 x24 (wrap64 (x25 + 1))) else (spec_GreedyTurns.l1 k x0 x4 x5 x6 x7 x8 x24 (wrap64 (x25 + 1)))) else (none)) else (none)) else (none)) else (none)) else (none)) else (none)) else (if 0 ≤ x8 then (if x8 < (x6.length : Int) then (if x5.length < 17592186044416 then (spec_GreedyTurns.l0 k x0 x4 (x5 ++ [x8]) (x6.set (x8 : Int).toNat (wrap64 ((rd x6 x8) + 1))) (wrap64 (x7 + 1))) else (none)) else (none)) else (none))
end
def spec_GreedyTurns.f (k : Nat) (l0 : List Int) : Option (List Int × Int) := (spec_l07Sum.f k l0).bind fun t101 => (if t101 = 0 then (some (([] : List Int), 2)) else (if 0 ≤ (l0.length : Int) then (if ((l0.length : Int) : Int).toNat ≤ 35184372088832 then (spec_GreedyTurns.l0 k l0 t101 (([] : List Int)) (List.replicate ((l0.length : Int) : Int).toNat 0) 0) else (none)) else (none)))
theorem spec_GreedyTurns.mono_l : ∀ k, (∀ y0 y1 y2 y3 y4, LeO (spec_GreedyTurns.l0 k y0 y1 y2 y3 y4) (spec_GreedyTurns.l0 (k + 1) y0 y1 y2 y3 y4)) ∧ (∀ y0 y1 y2 y3 y4 y5 y6 y7, LeO (spec_GreedyTurns.l1 k y0 y1 y2 y3 y4 y5 y6 y7) (spec_GreedyTurns.l1 (k + 1) y0 y1 y2 y3 y4 y5 y6 y7))
  | 0 => ⟨fun _ _ _ _ _ r h => by simp [spec_GreedyTurns.l0] at h, fun _ _ _ _ _ _ _ _ r h => by simp [spec_GreedyTurns.l1] at h⟩
  | k + 1 => by
    obtain ⟨ih0, ih1⟩ := spec_GreedyTurns.mono_l k
    refine ⟨?_, ?_⟩ <;> intros <;> (first | unfold spec_GreedyTurns.l0 | unfold spec_GreedyTurns.l1) <;> repeat' first | (with_reducible exact ih0 _ _ _ _ _) | (with_reducible exact ih1 _ _ _ _ _ _ _ _) | (with_reducible exact spec_l07Sum.mono _ _) | (with_reducible exact LeO.refl _) | (with_reducible exact LeO.none _) | (with_reducible refine LeO.ite ?_ ?_) | (with_reducible refine LeO.bind ?_ (fun _ => ?_)) | exact ih0 _ _ _ _ _ | exact ih1 _ _ _ _ _ _ _ _ | exact spec_l07Sum.mono _ _ | exact LeO.none _ | refine LeO.ite ?_ ?_ | refine LeO.bind ?_ (fun _ => ?_)
theorem spec_GreedyTurns.mono : ∀ a0 k, LeO (spec_GreedyTurns.f k a0) (spec_GreedyTurns.f (k + 1) a0) := by
  intro a0 k
  obtain ⟨ih0, ih1⟩ := spec_GreedyTurns.mono_l k
  unfold spec_GreedyTurns.f
  repeat' first | (with_reducible exact ih0 _ _ _ _ _) | (with_reducible exact ih1 _ _ _ _ _ _ _ _) | (with_reducible exact spec_l07Sum.mono _ _) | (with_reducible exact LeO.refl _) | (with_reducible exact LeO.none _) | (with_reducible refine LeO.ite ?_ ?_) | (with_reducible refine LeO.bind ?_ (fun _ => ?_)) | exact ih0 _ _ _ _ _ | exact ih1 _ _ _ _ _ _ _ _ | exact spec_l07Sum.mono _ _ | exact LeO.none _ | refine LeO.ite ?_ ?_ | refine LeO.bind ?_ (fun _ => ?_)
def spec_GreedyTurns.T12 : Bool × List (List Nat × List Nat) := (true, [([], []), ([], []), ([], []), ([1, 2], [1, 2]), ([3], [3]), ([0, 4], [0, 4]), ([], []), ([6], [6]), ([], []), ([], []), ([8, 9], [8, 9]), ([10], [10]), ([7, 11], [7, 11]), ([5, 12], [5, 12]), ([], []), ([], []), ([], []), ([15, 16], [15, 16]), ([17], [17]), ([14, 18], [14, 18]), ([], []), ([20], [20]), ([], []), ([], []), ([22, 23], [22, 23]), ([24], [24]), ([21, 25], [21, 25]), ([19, 26], [19, 26]), ([13, 27], [13, 27])])
def spec_GreedyTurns.B12 : List Nat := [0, 0, 0, 6, 14, 31, 0, 64, 0, 0, 768, 1792, 4032, 8191, 0, 0, 0, 98304, 229376, 507904, 0, 1048576, 0, 0, 12582912, 29360128, 66060288, 134201344, 268435455]
theorem spec_GreedyTurns.tab12 : rtab .any (opsOf Try.f9 12) = spec_GreedyTurns.T12 := by kernel_rfl
theorem spec_GreedyTurns.bits12 : waitsOk spec_GreedyTurns.T12.2 spec_GreedyTurns.B12 = true := by kernel_rfl
end Go.Proofs.Ytpmconnonleokaa.P
end
