/- Towers are at least the sum of the rates, and heights are those that cuts leave. -/
import Derived.Test.YtgmciimgmnnhmaaCFnGardens5
section
namespace Go.Proofs.Ytgmciimgmnnhmaa.P
open Go.RowKit Go.Proofs.YtgmciimgmnnhmaaW.PrintWords Go.Proofs.YtgmciimgmnnhmaaW.PrintLast Go.Proofs.YtgmciimgmnnhmaaW.PrintMore
attribute [local go_sem] max2_int min2_int max_two min_two max_three min_three max_four min_four   -- for this text's walks alone
set_option linter.unusedVariables false
set_option linter.unusedSimpArgs false
set_option maxHeartbeats 8000000 in
set_option maxRecDepth 100000 in
theorem spec_l06Heights.calls (k : Nat) (A0_0 : Option Addr) (c0_0 : Nat) (l0_0 : List Int) (A1 : Option Addr) (c1 : Nat) (l1 : List Int) (r : Int) (w : World) (hr0_0 : Kd.C (Kd.int .i64) w A0_0 l0_0.length l0_0) (hc0_0 : l0_0.length ≤ c0_0) (hr1 : Kd.C (Kd.int .i64) w A1 l1.length l1) (hc1 : l1.length ≤ c1) (h : spec_l06Heights.f k l0_0 l1 = some r) :
    Calls Try.prog 45 #[.agg #[.slice A0_0 l0_0.length c0_0], .slice A1 l1.length c1] w fun e w' => e = .returned (.int .i64 r) ∧ Below w.heap.size w w' := by
 have hu26 := Try.underlying26
 have HR0_0 := Aside0.mk hr0_0
 have HC0_0 := Aside0.mk hc0_0
 clear hr0_0 hc0_0
 have HR1 := Aside0.mk hr1
 have HC1 := Aside0.mk hc1
 clear hr1 hc1
 have HB := Aside0.mk (Below.refl w.heap.size w)
 have H : ((spec_l06Is.f k l0_0).bind fun t102 => (if t102 = true then (if (l1.length : Int) = (l0_0.length : Int) then (spec_l06Heights.l0 k l1 0) else (some 2)) else (some 1))) = some r := h
 clear h
 replace H := Option.bind_eq_some_iff.mp H
 obtain ⟨t102, A30, H⟩ := H
 replace H : (if t102 = true then (if (l1.length : Int) = (l0_0.length : Int) then (spec_l06Heights.l0 k l1 0) else (some 2)) else (some 1)) = some r := H
 have A3 := Aside0.mk A30
 clear A30
 by_cases c4 : t102 = true
 ·
  subst c4
  have H1 : (if (l1.length : Int) = (l0_0.length : Int) then (spec_l06Heights.l0 k l1 0) else (some 2)) = some r := by rw [if_pos rfl] at H; exact H
  clear H
  have H := H1
  clear H1
  by_cases c5 : (l1.length : Int) = (l0_0.length : Int)
  ·
   rw [if_pos c5] at H
   have c5b0 : ((l1.length : Int) == (l0_0.length : Int)) = true := beq_iff_eq.mpr c5
   have c5b1 : ((l1.length : Int) != (l0_0.length : Int)) = false := bne_eq_false_iff_eq.mpr c5
   have c5b2 : (l1.length == l0_0.length) = true := by first | simpa using c5 | (simp at c5 ⊢; omega)
   clear c5
   have H' := Aside0.mk H
   clear H
   go_enter Try.func45, Try.ntmps45
   go_wp2_with (first | ((with_reducible refine gate_dst (N := 2) rfl ?_); refine box_event zr (N := 2) zr (cs := #[.slice A0_0 l0_0.length c0_0]) (t := 26) zg ?_; intro gb101 hg w6 hbox hb; have n_ := y4 (below_step (zB) hb) (hbox) ((zS hg : w.heap.size ≤ gb101)) ((zS hg : w.heap.size ≤ gb101)); clear HB; obtain ⟨HB, BK101, GW101, GE101⟩ := n_; clear hb hbox hg; have hcz7_0 := zc BK101.out; have hfz7_0 := blk_frozen BK101.out 0) | ((with_reducible refine gate_callee (f := 52) rfl ?_); refine goesL_ (some 7) rfl rfl Try.func52 zk rfl #[.agg #[.slice A0_0 l0_0.length c0_0]] rfl zA ?_; (with_reducible refine (spec_l06Is.calls k _ _ l0_0 true _ ?side1 ?side2 A3.out).mono ?_); (case side1 => exact zC (Kd.C_below HR0_0.out HB.out)); (case side2 => exact HC0_0.out); rintro e w8 ⟨rfl, hb⟩; refine ⟨_, rfl, ?_⟩; have n_ := y2 (zb BK101.out hb) (below_step (zB) hb); clear BK101 HB; obtain ⟨BK101, HB⟩ := n_; (try clear hb); (try clear hb2); (try clear hk); (try clear hi); have hcz9_0 := zc BK101.out; have hfz9_0 := blk_frozen BK101.out 0))
   go_loopg [5] k (fun kq v5 w' => ∃ (x5_1 : Int), v5 = .int .i64 x5_1 ∧ Aside0 (spec_l06Heights.l0 kq l1 x5_1 = some r) ∧ Aside0 (kq ≤ k) ∧ Aside0 (w'.heap[gb101]? = some (.cells #[(.slice A0_0 l0_0.length c0_0)] 26 (0, 0))) ∧ Aside0 (Below w.heap.size w w'))
   case atStart => exact ⟨(0), zF, H', ⟨Nat.le_refl _⟩, ⟨zG BK101.out⟩, ⟨zB⟩⟩
   clear H'
   try clear c4
   try clear c5
   try clear c5b0
   try clear c5b1
   try clear c5b2
   try clear hcz7_0
   try clear hcz9_0
   try clear hfz7_0
   try clear hfz9_0
   obtain ⟨x5_1, rfl, HA, HK1, BK101, HB⟩ := hrel
   cases gk with
   | zero => exact absurd HA.out (by simp [spec_l06Heights.l0])
   | succ k1 =>
     have H := HA.out
     clear HA
     simp only [spec_l06Heights.l0] at H
     by_cases c10 : x5_1 < (l1.length : Int)
     · rw [if_pos c10] at H
       have c10b0 : decide (x5_1 < (l1.length : Int)) = true := decide_eq_true c10
       clear c10
       by_cases c11 : 0 ≤ x5_1
       · rw [if_pos c11] at H
         have c11b0 : decide (0 ≤ x5_1) = true := decide_eq_true c11
         clear c11
         replace H := Option.bind_eq_some_iff.mp H
         obtain ⟨t104, A120, H⟩ := H
         replace H : (if t104 = true then (spec_l06Heights.l0 k1 l1 (wrap64 (x5_1 + 1))) else (some 2)) = some r := H
         have A12 := Aside0.mk A120
         clear A120
         by_cases c13 : t104 = true
         · subst c13
           have H1 : (spec_l06Heights.l0 k1 l1 (wrap64 (x5_1 + 1))) = some r := by rw [if_pos rfl] at H; exact H
           clear H
           have H := H1
           clear H1
           have H' := Aside0.mk H
           clear H
           have p103 : 0 ≤ (x5_1 : Int) := zD
           have q103 : x5_1 < (l1.length : Int) := zD
           obtain ⟨ad103, e103, hx103_0⟩ := Kd.at_int HR1.out x5_1 p103 q103
           cases e103
           replace hx103_0 := (HB.out.cell (World.block_lt_of_cell? w _ hx103_0)).trans hx103_0
           replace p103 := eq_true p103
           replace q103 := eq_true q103
           go_wp2_with (first | ((with_reducible refine gate_callee (f := 40) rfl ?_); refine goesL_ (some 25) rfl rfl Try.func40 zk rfl #[.int .i64 (rd l1 x5_1), .int .i64 0, .int .i64 100000] rfl zA ?_; (with_reducible refine (spec_l01In.calls (rd l1 x5_1) 0 100000 true _ A12.out).mono ?_); rintro e w' ⟨rfl, ⟨nd, rfl⟩⟩; refine ⟨_, rfl, ?_⟩))
           go_roundg k1
           case measure => have := HK1.out; omega
           case rel => exact ⟨(wrap64 (x5_1 + 1)), zF, H', ⟨by have := HK1.out; omega⟩, ⟨zG BK101.out⟩, ⟨zB⟩⟩
         · replace c13 := Bool.eq_false_iff.mpr c13
           subst c13
           have H1 : (some 2) = some r := by rw [if_neg (show ¬ (false = true) by decide)] at H; exact H
           clear H
           have H := H1
           clear H1
           obtain rfl := Option.some.inj H
           have p103 : 0 ≤ (x5_1 : Int) := zD
           have q103 : x5_1 < (l1.length : Int) := zD
           obtain ⟨ad103, e103, hx103_0⟩ := Kd.at_int HR1.out x5_1 p103 q103
           cases e103
           replace hx103_0 := (HB.out.cell (World.block_lt_of_cell? w _ hx103_0)).trans hx103_0
           replace p103 := eq_true p103
           replace q103 := eq_true q103
           go_wp2_with (first | ((with_reducible refine gate_callee (f := 40) rfl ?_); refine goesL_ (some 25) rfl rfl Try.func40 zk rfl #[.int .i64 (rd l1 x5_1), .int .i64 0, .int .i64 100000] rfl zA ?_; (with_reducible refine (spec_l01In.calls (rd l1 x5_1) 0 100000 false _ A12.out).mono ?_); rintro e w' ⟨rfl, ⟨nd, rfl⟩⟩; refine ⟨_, rfl, ?_⟩))
           go_ret
           exact ⟨zE, zB⟩
       · rw [if_neg c11] at H
         exact absurd H (by simp)
     · rw [if_neg c10] at H
       have c10b0 : decide (x5_1 < (l1.length : Int)) = false := decide_eq_false c10
       clear c10
       obtain rfl := Option.some.inj H
       go_wp2
       go_ret
       exact ⟨zE, zB⟩
  rw [if_neg c5] at H
  have c5b0 : ((l1.length : Int) == (l0_0.length : Int)) = false := beq_eq_false_iff_ne.mpr c5
  have c5b1 : ((l1.length : Int) != (l0_0.length : Int)) = true := bne_iff_ne.mpr c5
  have c5b2 : (l1.length == l0_0.length) = false := by first | simpa using c5 | (simp at c5 ⊢; omega)
  obtain rfl := Option.some.inj H
  go_enter Try.func45, Try.ntmps45
  go_wp2_with (first | ((with_reducible refine gate_dst (N := 2) rfl ?_); refine box_event zr (N := 2) zr (cs := #[.slice A0_0 l0_0.length c0_0]) (t := 26) zg ?_; intro gb101 hg w14 hbox hb; have n_ := y4 (below_step (zB) hb) (hbox) ((zS hg : w.heap.size ≤ gb101)) ((zS hg : w.heap.size ≤ gb101)); clear HB; obtain ⟨HB, BK101, GW101, GE101⟩ := n_; clear hb hbox hg; have hcz15_0 := zc BK101.out; have hfz15_0 := blk_frozen BK101.out 0) | ((with_reducible refine gate_callee (f := 52) rfl ?_); refine goesL_ (some 7) rfl rfl Try.func52 zk rfl #[.agg #[.slice A0_0 l0_0.length c0_0]] rfl zA ?_; (with_reducible refine (spec_l06Is.calls k _ _ l0_0 true _ ?side1 ?side2 A3.out).mono ?_); (case side1 => exact zC (Kd.C_below HR0_0.out HB.out)); (case side2 => exact HC0_0.out); rintro e w16 ⟨rfl, hb⟩; refine ⟨_, rfl, ?_⟩; have n_ := y2 (zb BK101.out hb) (below_step (zB) hb); clear BK101 HB; obtain ⟨BK101, HB⟩ := n_; (try clear hb); (try clear hb2); (try clear hk); (try clear hi); have hcz17_0 := zc BK101.out; have hfz17_0 := blk_frozen BK101.out 0))
  go_ret
  exact ⟨zE, zB⟩
 replace c4 := Bool.eq_false_iff.mpr c4
 subst c4
 have H1 : (some 1) = some r := by rw [if_neg (show ¬ (false = true) by decide)] at H; exact H
 clear H
 have H := H1
 clear H1
 obtain rfl := Option.some.inj H
 go_enter Try.func45, Try.ntmps45
 go_wp2_with (first | ((with_reducible refine gate_dst (N := 2) rfl ?_); refine box_event zr (N := 2) zr (cs := #[.slice A0_0 l0_0.length c0_0]) (t := 26) zg ?_; intro gb101 hg w18 hbox hb; have n_ := y4 (below_step (zB) hb) (hbox) ((zS hg : w.heap.size ≤ gb101)) ((zS hg : w.heap.size ≤ gb101)); clear HB; obtain ⟨HB, BK101, GW101, GE101⟩ := n_; clear hb hbox hg; have hcz19_0 := zc BK101.out; have hfz19_0 := blk_frozen BK101.out 0) | ((with_reducible refine gate_callee (f := 52) rfl ?_); refine goesL_ (some 7) rfl rfl Try.func52 zk rfl #[.agg #[.slice A0_0 l0_0.length c0_0]] rfl zA ?_; (with_reducible refine (spec_l06Is.calls k _ _ l0_0 false _ ?side1 ?side2 A3.out).mono ?_); (case side1 => exact zC (Kd.C_below HR0_0.out HB.out)); (case side2 => exact HC0_0.out); rintro e w20 ⟨rfl, hb⟩; refine ⟨_, rfl, ?_⟩; have n_ := y2 (zb BK101.out hb) (below_step (zB) hb); clear BK101 HB; obtain ⟨BK101, HB⟩ := n_; (try clear hb); (try clear hb2); (try clear hk); (try clear hi)))
 go_ret
 exact ⟨zE, zB⟩
end Go.Proofs.Ytgmciimgmnnhmaa.P
end
section
namespace Go.Proofs.Ytgmciimgmnnhmaa.P
open Go.RowKit Go.Proofs.YtgmciimgmnnhmaaW.PrintWords Go.Proofs.YtgmciimgmnnhmaaW.PrintLast Go.Proofs.YtgmciimgmnnhmaaW.PrintMore
attribute [local go_sem] max2_int min2_int max_two min_two max_three min_three max_four min_four   -- for this text's walks alone
set_option linter.unusedVariables false
set_option linter.unusedSimpArgs false
def spec_GrowDays.j0 : Nat → List Int → Int → Int → Bool → List Int → Option (List Int × Int)
  | 0, _, _, _, _, _ => none
  | k + 1, x1, x2, x8, x18, x102000 => if x18 = true then (if 2 = 0 then ((spec_l06Grow.f k x102000 x1 x2).bind fun t104 => (some (t104, 0))) else (some (([] : List Int), 2))) else (if x8 = 0 then ((spec_l06Grow.f k x102000 x1 x2).bind fun t107 => (some (t107, 0))) else (some (([] : List Int), x8)))
def spec_GrowDays.f (k : Nat) (l0_0 : List Int) (l1 : List Int) (a2 : Int) : Option (List Int × Int) := (spec_l06Heights.f k l0_0 l1).bind fun t102 => (if t102 = 0 then ((spec_l01In.f a2 0 200).bind fun t103 => (spec_GrowDays.j0 k l1 a2 t102 (!t103) l0_0)) else (spec_GrowDays.j0 k l1 a2 t102 false l0_0))
theorem spec_GrowDays.mono_l : ∀ k, (∀ y0 y1 y2 y3 y4, LeO (spec_GrowDays.j0 k y0 y1 y2 y3 y4) (spec_GrowDays.j0 (k + 1) y0 y1 y2 y3 y4))
  | 0 => fun _ _ _ _ _ r h => by simp [spec_GrowDays.j0] at h
  | k + 1 => by
    have ih0 := spec_GrowDays.mono_l k
    · intro y0 y1 y2 y3 y4
      unfold spec_GrowDays.j0
      repeat' first | (with_reducible exact ih0 _ _ _ _ _) | (with_reducible exact spec_l06Grow.mono _ _ _ _) | (with_reducible exact spec_l06Heights.mono _ _ _) | (with_reducible exact LeO.refl _) | (with_reducible exact LeO.none _) | (with_reducible refine LeO.ite ?_ ?_) | (with_reducible refine LeO.bind ?_ (fun _ => ?_)) | exact ih0 _ _ _ _ _ | exact spec_l06Grow.mono _ _ _ _ | exact spec_l06Heights.mono _ _ _ | exact LeO.none _ | refine LeO.ite ?_ ?_ | refine LeO.bind ?_ (fun _ => ?_)
theorem spec_GrowDays.mono : ∀ a0 a1 a2 k, LeO (spec_GrowDays.f k a0 a1 a2) (spec_GrowDays.f (k + 1) a0 a1 a2) := by
  intro a0 a1 a2 k
  have ih0 := spec_GrowDays.mono_l k
  unfold spec_GrowDays.f
  repeat' first | (with_reducible exact ih0 _ _ _ _ _) | (with_reducible exact spec_l06Grow.mono _ _ _ _) | (with_reducible exact spec_l06Heights.mono _ _ _) | (with_reducible exact LeO.refl _) | (with_reducible exact LeO.none _) | (with_reducible refine LeO.ite ?_ ?_) | (with_reducible refine LeO.bind ?_ (fun _ => ?_)) | exact ih0 _ _ _ _ _ | exact spec_l06Grow.mono _ _ _ _ | exact spec_l06Heights.mono _ _ _ | exact LeO.none _ | refine LeO.ite ?_ ?_ | refine LeO.bind ?_ (fun _ => ?_)
set_option maxHeartbeats 8000000 in
set_option maxRecDepth 100000 in
theorem spec_GrowDays.calls (k : Nat) (A0_0 : Option Addr) (c0_0 : Nat) (l0_0 : List Int) (A1 : Option Addr) (c1 : Nat) (l1 : List Int) (a2 : Int) (r1 : List Int) (r2 : Int) (w : World) (hr0_0 : Kd.C (Kd.int .i64) w A0_0 l0_0.length l0_0) (hc0_0 : l0_0.length ≤ c0_0) (hr1 : Kd.C (Kd.int .i64) w A1 l1.length l1) (hc1 : l1.length ≤ c1) (h : spec_GrowDays.f k l0_0 l1 a2 = some (r1, r2)) :
    Calls Try.prog 14 #[.agg #[.slice A0_0 l0_0.length c0_0], .slice A1 l1.length c1, .int .i64 a2] w fun e w' => ∃ v0_ : Value, e = .returned (.tuple #[v0_, .int .i64 r2]) ∧ Kd.R (Kd.int .i64) 2 w' w.heap.size (fun _ => True) v0_ r1 ∧ Below w.heap.size w w' := by
 have hu26 := Try.underlying26
 have HR0_0 := Aside0.mk hr0_0
 have HC0_0 := Aside0.mk hc0_0
 clear hr0_0 hc0_0
 have HR1 := Aside0.mk hr1
 have HC1 := Aside0.mk hc1
 clear hr1 hc1
 have HB := Aside0.mk (Below.refl w.heap.size w)
 have H : ((spec_l06Heights.f k l0_0 l1).bind fun t102 => (if t102 = 0 then ((spec_l01In.f a2 0 200).bind fun t103 => (spec_GrowDays.j0 k l1 a2 t102 (!t103) l0_0)) else (spec_GrowDays.j0 k l1 a2 t102 false l0_0))) = some (r1, r2) := h
 clear h
 replace H := Option.bind_eq_some_iff.mp H
 obtain ⟨t102, A40, H⟩ := H
 replace H : (if t102 = 0 then ((spec_l01In.f a2 0 200).bind fun t103 => (spec_GrowDays.j0 k l1 a2 t102 (!t103) l0_0)) else (spec_GrowDays.j0 k l1 a2 t102 false l0_0)) = some (r1, r2) := H
 have A4 := Aside0.mk A40
 clear A40
 have HC5 := Aside0.mk H
 clear H
 go_enter Try.func14, Try.ntmps14
 go_upto_region 2 with (first | ((with_reducible refine gate_dst (N := 3) rfl ?_); refine box_event zr (N := 3) zr (cs := #[.slice A0_0 l0_0.length c0_0]) (t := 26) zg ?_; intro gb101 hg w6 hbox hb; have n_ := y4 (below_step (zB) hb) (hbox) ((zS hg : w.heap.size ≤ gb101)) ((zS hg : w.heap.size ≤ gb101)); clear HB; obtain ⟨HB, BK101, GW101, GE101⟩ := n_; clear hb hbox hg; have hcz7_0 := zc BK101.out; have hfz7_0 := blk_frozen BK101.out 0) | ((with_reducible refine gate_callee (f := 45) rfl ?_); refine goesL_ (some 11) rfl rfl Try.func45 zk rfl #[.agg #[.slice A0_0 l0_0.length c0_0], .slice A1 l1.length c1] rfl zA ?_; (with_reducible refine (spec_l06Heights.calls k _ _ l0_0 _ _ l1 t102 _ ?side1 ?side2 ?side3 ?side4 A4.out).mono ?_); (case side1 => exact zC (Kd.C_below HR0_0.out HB.out)); (case side2 => exact HC0_0.out); (case side3 => exact zC (Kd.C_below HR1.out HB.out)); (case side4 => exact HC1.out); rintro e w8 ⟨rfl, hb⟩; refine ⟨_, rfl, ?_⟩; have n_ := y2 (zb BK101.out hb) (below_step (zB) hb); clear BK101 HB; obtain ⟨BK101, HB⟩ := n_; (try clear hb); (try clear hb2); (try clear hk); (try clear hi)))
 (try simp only [Act.put, List.setIfInBounds_toArray, List.set_cons_zero, List.set_cons_succ])
 go_cut [18] (fun v18 wc => ∃ (kq : Nat) (x18_4 : Bool), v18 = .bool x18_4 ∧ Aside0 (spec_GrowDays.j0 kq l1 a2 t102 x18_4 l0_0 = some (r1, r2)) ∧ Aside0 (kq ≤ k) ∧ Aside0 (wc.heap[gb101]? = some (.cells #[(.slice A0_0 l0_0.length c0_0)] 26 (0, 0))) ∧ Aside0 (Below w.heap.size w wc))
 case first =>
  have H := HC5.out
  clear HC5
  by_cases c9 : t102 = 0
  ·
   rw [if_pos c9] at H
   have c9b0 : (t102 == 0) = true := beq_iff_eq.mpr c9
   have c9b1 : (t102 != 0) = false := bne_eq_false_iff_eq.mpr c9
   clear c9
   (first | rw [c9b0] | (simp only [i64_w, i32_w]; rw [c9b0]) | skip)
   replace H := Option.bind_eq_some_iff.mp H
   obtain ⟨t103, A100, H⟩ := H
   replace H : (spec_GrowDays.j0 k l1 a2 t102 (!t103) l0_0) = some (r1, r2) := H
   have A10 := Aside0.mk A100
   clear A100
   have H' := Aside0.mk H
   clear H
   go_wp2_with (first | (go_at_call 40; (with_reducible refine (spec_l01In.calls a2 0 200 t103 _ A10.out).mono ?_); rintro e w' ⟨rfl, ⟨nd, rfl⟩⟩))
   go_meet
   case rel => exact ⟨_, (!t103), zF, H', ⟨by first | omega | exact Nat.le_refl _⟩, ⟨zG BK101.out⟩, ⟨zB⟩⟩
  rw [if_neg c9] at H
  have c9b0 : (t102 == 0) = false := beq_eq_false_iff_ne.mpr c9
  have c9b1 : (t102 != 0) = true := bne_iff_ne.mpr c9
  (first | rw [c9b0] | (simp only [i64_w, i32_w]; rw [c9b0]) | skip)
  have H' := Aside0.mk H
  clear H
  go_wp2
  go_meet
  case rel => exact ⟨_, (false), zF, H', ⟨by first | omega | exact Nat.le_refl _⟩, ⟨zG BK101.out⟩, ⟨zB⟩⟩
 clear HC5
 try clear c1
 try clear hcz7_0
 try clear hfz7_0
 obtain ⟨kq, x18_4, rfl, HA, HJ4, BK101, HB⟩ := hcut
 cases kq with
 | zero => exact absurd HA.out (by simp [spec_GrowDays.j0])
 | succ kj4 =>
   have H := HA.out
   clear HA
   simp only [spec_GrowDays.j0] at H
   by_cases c11 : x18_4 = true
   · subst c11
     have H1 : (if 2 = 0 then ((spec_l06Grow.f kj4 l0_0 l1 a2).bind fun t104 => (some (t104, 0))) else (some (([] : List Int), 2))) = some (r1, r2) := by rw [if_pos rfl] at H; exact H
     clear H
     have H := H1
     clear H1
     by_cases c12 : 2 = 0
     · exact absurd c12 (by decide)
     · rw [if_neg c12] at H
       have c12b0 : (2 == 0) = false := beq_eq_false_iff_ne.mpr c12
       have c12b1 : (2 != 0) = true := bne_iff_ne.mpr c12
       simp only [Option.some.injEq, Prod.mk.injEq] at H
       obtain ⟨rfl, rfl⟩ := H
       go_wp2
       go_ret2
       exact ⟨_, zE, zN, zB⟩
   · replace c11 := Bool.eq_false_iff.mpr c11
     subst c11
     have H1 : (if t102 = 0 then ((spec_l06Grow.f kj4 l0_0 l1 a2).bind fun t107 => (some (t107, 0))) else (some (([] : List Int), t102))) = some (r1, r2) := by rw [if_neg (show ¬ (false = true) by decide)] at H; exact H
     clear H
     have H := H1
     clear H1
     by_cases c16 : t102 = 0
     · rw [if_pos c16] at H
       have c16b0 : (t102 == 0) = true := beq_iff_eq.mpr c16
       have c16b1 : (t102 != 0) = false := bne_eq_false_iff_eq.mpr c16
       clear c16
       replace H := Option.bind_eq_some_iff.mp H
       obtain ⟨t107, A170, H⟩ := H
       replace H : (some (t107, 0)) = some (r1, r2) := H
       have A17 := Aside0.mk A170
       clear A170
       simp only [Option.some.injEq, Prod.mk.injEq] at H
       obtain ⟨rfl, rfl⟩ := H
       have hcz18_0 := zc BK101.out
       have hfz18_0 := blk_frozen BK101.out 0
       go_wp2_with (first | ((with_reducible refine gate_callee (f := 41) rfl ?_); refine goesL_ (some 25) rfl rfl Try.func41 zk rfl #[.agg #[.slice A0_0 l0_0.length c0_0], .slice A1 l1.length c1, .int .i64 a2] rfl zA ?_; (with_reducible refine (spec_l06Grow.calls kj4 _ _ l0_0 _ _ l1 a2 t107 _ ?side1 ?side2 ?side3 ?side4 A17.out).mono ?_); (case side1 => exact zC (Kd.C_below HR0_0.out HB.out)); (case side2 => exact HC0_0.out); (case side3 => exact zC (Kd.C_below HR1.out HB.out)); (case side4 => exact HC1.out); rintro e w19 ⟨v108, rfl, ho0, hb⟩; refine ⟨_, rfl, ?_⟩; have n_ := y3 (Kd.R_lower ho0 (below_size (zB))) (zb BK101.out hb) (below_step (zB) hb); clear BK101 HB; obtain ⟨HO109, BK101, HB⟩ := n_; (try clear hb); (try clear hb2); (try clear hk); (try clear hi); (try clear ho0)))
       go_ret2
       exact ⟨_, zE, zR HO109.out, zB⟩
     · rw [if_neg c16] at H
       have c16b0 : (t102 == 0) = false := beq_eq_false_iff_ne.mpr c16
       have c16b1 : (t102 != 0) = true := bne_iff_ne.mpr c16
       simp only [Option.some.injEq, Prod.mk.injEq] at H
       obtain ⟨rfl, rfl⟩ := H
       go_wp2
       go_ret2
       exact ⟨_, zE, zN, zB⟩
end Go.Proofs.Ytgmciimgmnnhmaa.P
end
section
namespace Go.Proofs.Ytgmciimgmnnhmaa.P
open Go.RowKit Go.Proofs.YtgmciimgmnnhmaaW.PrintWords Go.Proofs.YtgmciimgmnnhmaaW.PrintLast Go.Proofs.YtgmciimgmnnhmaaW.PrintMore
attribute [local go_sem] max2_int min2_int max_two min_two max_three min_three max_four min_four   -- for this text's walks alone
set_option linter.unusedVariables false
set_option linter.unusedSimpArgs false
def spec_DrawCutBySpeed.f (k : Nat) (l0 : List Int) : Option (List Int × List Int × Int) := (spec_l01From.f k l0).bind fun bt102 => ((spec_l06With.f k l0).bind fun bt106 => ((spec_l01Near.f bt102.1 bt102.2.1 bt102.2.2 1000).bind fun bt113 => ((spec_l01Pick.f bt102.1 bt113.2.1 bt113.2.2 (([1, 5, 20, bt113.1] : List Int))).bind fun bt119 => (some (bt106.1, bt106.2, bt119.1)))))
theorem spec_DrawCutBySpeed.mono : ∀ a0 k, LeO (spec_DrawCutBySpeed.f k a0) (spec_DrawCutBySpeed.f (k + 1) a0) := by
  intro a0 k
  unfold spec_DrawCutBySpeed.f
  repeat' first | (with_reducible exact spec_l01From.mono _ _) | (with_reducible exact spec_l06With.mono _ _) | (with_reducible exact LeO.refl _) | (with_reducible exact LeO.none _) | (with_reducible refine LeO.ite ?_ ?_) | (with_reducible refine LeO.bind ?_ (fun _ => ?_)) | exact spec_l01From.mono _ _ | exact spec_l06With.mono _ _ | exact LeO.none _ | refine LeO.ite ?_ ?_ | refine LeO.bind ?_ (fun _ => ?_)
def spec_DrawCutBySpeed.T3 : Bool × List (List Nat × List Nat) := (true, [([], []), ([], []), ([], []), ([], []), ([3], [3]), ([4], [4]), ([2, 5, 4], [2, 5]), ([0, 6, 0], [0]), ([1, 7, 0, 1, 7], [1]), ([6, 8, 0, 1, 2, 3, 4, 5, 6, 7, 8], [6])])
def spec_DrawCutBySpeed.B3 : List Nat := [0, 0, 0, 0, 8, 24, 60, 125, 255, 511]
theorem spec_DrawCutBySpeed.tab3 : rtab .any (opsOf Try.f15 3) = spec_DrawCutBySpeed.T3 := by kernel_rfl
theorem spec_DrawCutBySpeed.bits3 : waitsOk spec_DrawCutBySpeed.T3.2 spec_DrawCutBySpeed.B3 = true := by kernel_rfl
set_option maxHeartbeats 8000000 in
set_option maxRecDepth 100000 in
theorem spec_DrawCutBySpeed.calls (k : Nat) (A0 : Option Addr) (c0 : Nat) (l0 : List Int) (r1 : List Int) (r2 : List Int) (r3 : Int) (w : World) (hr0 : Kd.C (Kd.int .u8) w A0 l0.length l0) (hc0 : l0.length ≤ c0) (h : spec_DrawCutBySpeed.f k l0 = some (r1, r2, r3)) :
    Calls Try.prog 15 #[.slice A0 l0.length c0] w fun e w' => ∃ v0_ v1_ : Value, e = .returned (.tuple #[.agg #[v0_], v1_, .int .i64 r3]) ∧ Kd.R (Kd.int .i64) 2 w' w.heap.size (fun k_ => some k_ ≠ (v1_ : Value).ownBlock) v0_ r1 ∧ Kd.R (Kd.int .i64) 2 w' w.heap.size (fun k_ => some k_ ≠ (v0_ : Value).ownBlock) v1_ r2 ∧ Below w.heap.size w w' := by
 have hu26 := Try.underlying26
 have HR0 := Aside0.mk hr0
 have HC0 := Aside0.mk hc0
 clear hr0 hc0
 have HB := Aside0.mk (Below.refl w.heap.size w)
 have H : ((spec_l01From.f k l0).bind fun bt102 => ((spec_l06With.f k l0).bind fun bt106 => ((spec_l01Near.f bt102.1 bt102.2.1 bt102.2.2 1000).bind fun bt113 => ((spec_l01Pick.f bt102.1 bt113.2.1 bt113.2.2 (([1, 5, 20, bt113.1] : List Int))).bind fun bt119 => (some (bt106.1, bt106.2, bt119.1)))))) = some (r1, r2, r3) := h
 clear h
 replace H := Option.bind_eq_some_iff.mp H
 obtain ⟨⟨t102, t103, t104⟩, A20, H⟩ := H
 replace H : ((spec_l06With.f k l0).bind fun bt106 => ((spec_l01Near.f t102 t103 t104 1000).bind fun bt113 => ((spec_l01Pick.f t102 bt113.2.1 bt113.2.2 (([1, 5, 20, bt113.1] : List Int))).bind fun bt119 => (some (bt106.1, bt106.2, bt119.1))))) = some (r1, r2, r3) := H
 have A2 := Aside0.mk A20
 clear A20
 replace H := Option.bind_eq_some_iff.mp H
 obtain ⟨⟨t106, t109⟩, A30, H⟩ := H
 replace H : ((spec_l01Near.f t102 t103 t104 1000).bind fun bt113 => ((spec_l01Pick.f t102 bt113.2.1 bt113.2.2 (([1, 5, 20, bt113.1] : List Int))).bind fun bt119 => (some (t106, t109, bt119.1)))) = some (r1, r2, r3) := H
 have A3 := Aside0.mk A30
 clear A30
 replace H := Option.bind_eq_some_iff.mp H
 obtain ⟨⟨t113, t114, t115⟩, A40, H⟩ := H
 replace H : ((spec_l01Pick.f t102 t114 t115 (([1, 5, 20, t113] : List Int))).bind fun bt119 => (some (t106, t109, bt119.1))) = some (r1, r2, r3) := H
 have A4 := Aside0.mk A40
 clear A40
 obtain ⟨y116, hy116⟩ : ∃ y_ : List Int, y_ = (([1, 5, 20, t113] : List Int)) := ⟨_, rfl⟩
 replace H : ((spec_l01Pick.f t102 t114 t115 y116).bind fun bt119 => (some (t106, t109, bt119.1))) = some (r1, r2, r3) := zH hy116
 have Ny116 := Aside0.mk hy116
 clear hy116
 replace H := Option.bind_eq_some_iff.mp H
 obtain ⟨⟨t119, t120, t121⟩, A50, H⟩ := H
 replace H : (some (t106, t109, t119)) = some (r1, r2, r3) := H
 have A5 := Aside0.mk A50
 clear A50
 simp only [Option.some.injEq, Prod.mk.injEq] at H
 obtain ⟨rfl, rfl, rfl⟩ := H
 go_enter Try.func15, Try.ntmps15
 try go_wp2_with (first | ((with_reducible refine gate_dst (N := 2) rfl ?_); refine box_event zr (N := 2) zr (cs := #[.slice none 0 0]) (t := 26) zg ?_; intro gb101 hg w6 hbox hb; have n_ := y4 (below_step (zB) hb) (hbox) ((zS hg : w.heap.size ≤ gb101)) ((zS hg : w.heap.size ≤ gb101)); clear HB; obtain ⟨HB, BK101, GW101, GE101⟩ := n_; clear hb hbox hg) | ((with_reducible refine gate_callee (f := 33) rfl ?_); refine goesL_ (some 9) rfl rfl Try.func33 zk rfl #[.slice A0 l0.length c0] rfl zA ?_; (with_reducible refine (spec_l01From.calls k _ _ l0 t102 t103 t104 w _ ?side1 ?side2 ?side3 A2.out).mono ?_); (case side1 => exact zB); (case side2 => exact HR0.out); (case side3 => exact HC0.out); rintro e w7 ⟨g105, rfl, hi, hb, hb2⟩; refine ⟨_, rfl, ?_⟩; have n_ := y5 (zb BK101.out hb2) (hb) (hi) (IsS68.ne_blk hi (zb BK101.out hb2) (by decide)) (Ne.symm (IsS68.ne_blk hi (zb BK101.out hb2) (by decide))); clear BK101 HB; obtain ⟨BK101, HB, HI105, NB105_101, NB101_105⟩ := n_; (try clear hb); (try clear hb2); (try clear hk); (try clear hi)) | ((with_reducible refine gate_callee (f := 42) rfl ?_); refine goesL_ (some 12) rfl rfl Try.func42 zk rfl #[.slice A0 l0.length c0] rfl zA ?_; (with_reducible refine (spec_l06With.calls k _ _ l0 t106 t109 _ ?side1 ?side2 A3.out).mono ?_); (case side1 => exact zC (Kd.C_below HR0.out HB.out)); (case side2 => exact HC0.out); rintro e w8 ⟨v107, v110, rfl, ho0, ho1, hb⟩; refine ⟨_, rfl, ?_⟩; have n_ := y5 (Kd.R_lower ho0 (below_size (zB))) (Kd.R_lower ho1 (below_size (zB))) (zb BK101.out hb) (IsS68.below (zX HI105.out) hb) (below_step (zB) hb); clear BK101 HI105 HB; obtain ⟨HO108, HO111, BK101, HI105, HB⟩ := n_; (try clear hb); (try clear hb2); (try clear hk); (try clear hi); (try clear ho0); (try clear ho1)) | ((with_reducible refine gate_dst (N := 6) rfl ?_); refine box_event zr (N := 6) zr (cs := #[.slice none 0 0]) (t := 26) zg ?_; intro gb112 hg w9 hbox hb; have n_ := y12 (Kd.R_below (zR HO108.out) hb) (Kd.R_below (zR HO111.out) hb) (zb BK101.out hb) (IsS68.below (zX HI105.out) hb) (below_step (zB) hb) (hbox) ((zS hg : w.heap.size ≤ gb112)) ((zS hg : w.heap.size ≤ gb112)) ((zL hg BK101.out : gb101 ≠ gb112)) ((zM hg BK101.out : gb112 ≠ gb101)) ((by rw [hg]; exact Nat.ne_of_lt (IsS68.lt (show IsS68 w _ g105 t102 t103 t104 from zX HI105.out)) : g105 ≠ gb112)) ((by rw [hg]; exact Nat.ne_of_gt (IsS68.lt (show IsS68 w _ g105 t102 t103 t104 from zX HI105.out)) : gb112 ≠ g105)); clear HO108 HO111 BK101 HI105 HB; obtain ⟨HO108, HO111, BK101, HI105, HB, BK112, GW112, GE112, NB101_112, NB112_101, NB105_112, NB112_105⟩ := n_; clear hb hbox hg; obtain ⟨Ao10, co10, eo10⟩ := Kd.R_slice HO108.out; subst eo10; have hnb11 := NB112_101.out; have hnc11 := NB101_112.out; have hnb12 := NB112_105.out; have hnc12 := NB105_112.out; have hcz13_0 := zc BK112.out; have hfz13_0 := blk_frozen BK112.out 0))
 have n0_ : Aside0 (Kd.R (Kd.int .i64) 2 (w9.setCell ⟨gb112, 0, none⟩ (.slice Ao10 t106.length co10)) w.heap.size (fun k_ => some k_ ≠ (v110 : Value).ownBlock) (.slice Ao10 t106.length co10) t106) := ⟨by refine zR ?_; exact Kd.R_mono (Kd.R_far (p := ⟨gb112, 0, none⟩) (Kd.R_types HO108.out BK112.out (by decide)) (fun _ hk => hk.2) (.slice Ao10 t106.length co10)) (fun _ hk => hk.1)⟩
 have n1_ : Aside0 (Kd.R (Kd.int .i64) 2 (w9.setCell ⟨gb112, 0, none⟩ (.slice Ao10 t106.length co10)) w.heap.size (fun k_ => some k_ ≠ (.slice Ao10 t106.length co10 : Value).ownBlock) v110 t109) := ⟨by refine zR ?_; exact Kd.R_mono (Kd.R_far (p := ⟨gb112, 0, none⟩) (Kd.R_types HO111.out BK112.out (by decide)) (fun _ hk => hk.2) (.slice Ao10 t106.length co10)) (fun _ hk => hk.1)⟩
 have n2_ : Aside0 ((w9.setCell ⟨gb112, 0, none⟩ (.slice Ao10 t106.length co10)).heap[gb101]? = some (.cells #[.slice none 0 0] 26 (0, 0))) := ⟨by refine zG ?_; refine blk_far ?_ NB101_112.out _; refine zG ?_; exact BK101.out⟩
 have n3_ : Aside0 ((w9.setCell ⟨gb112, 0, none⟩ (.slice Ao10 t106.length co10)).heap[gb112]? = some (.cells #[.slice Ao10 t106.length co10] 26 (0, 0))) := ⟨by refine zG ?_; refine blk_put (cs := #[.slice none 0 0]) ?_ 0 _ rfl; refine zG ?_; exact BK112.out⟩
 have n4_ : Aside0 (IsS68 w (w9.setCell ⟨gb112, 0, none⟩ (.slice Ao10 t106.length co10)) g105 t102 t103 t104) := ⟨zX HI105.out⟩
 have n5_ : Aside0 (Below w.heap.size w (w9.setCell ⟨gb112, 0, none⟩ (.slice Ao10 t106.length co10))) := ⟨zB⟩
 (try clear HO108)
 (try clear HO111)
 (try clear BK101)
 (try clear BK112)
 (try clear HI105)
 (try clear HB)
 generalize (w9.setCell ⟨gb112, 0, none⟩ (.slice Ao10 t106.length co10)) = w14 at n0_ n1_ n2_ n3_ n4_ n5_ ⊢
 have HO108 := n0_
 have HO111 := n1_
 have BK101 := n2_
 have BK112 := n3_
 have HI105 := n4_
 have HB := n5_
 clear n0_ n1_ n2_ n3_ n4_ n5_
 have n_ := y6 (Kd.R_drew HO108.out) (Kd.R_drew HO111.out) (blk_drew BK101.out) (blk_drew BK112.out) (IsS68.drew HI105.out) (below_drew1 HB.out)
 clear HO108 HO111 BK101 BK112 HI105 HB
 obtain ⟨HO108, HO111, BK101, BK112, HI105, HB⟩ := n_
 refine start_ (n := 10) (S := fun w' => w'.cell? ⟨gb112, 0, none⟩ = some (.slice Ao10 t106.length co10)) (ds := []) #[false,false,false,false,false,false,false,false,false,false] zk rfl rfl ((blk_cell BK112.out 0).trans rfl) (fun hHeld => ?_); refine with_tabW spec_DrawCutBySpeed.tab3 spec_DrawCutBySpeed.bits3 (fun HT_ HW_ => ?_)
 generalize w14.drew = w15 at HO108 HO111 BK101 BK112 HI105 HB hHeld ⊢
 refine pure_ (i := 1) (N := some 16) (v := ?_) (a' := ?_) #[false,true,false,false,false,false,false,false,false,false] rfl rfl (any_of HT_.out zk) (fun _ _ _ h => h) (Or.inl ⟨by rfl, ?_⟩) ?_ ?_
 rotate_left; exact zp; rotate_left; exact zq
 refine pure_ (i := 2) (N := some 17) (v := ?_) (a' := ?_) #[false,true,true,false,false,false,false,false,false,false] rfl rfl (any_of HT_.out zk) (fun _ _ _ h => h) (Or.inl ⟨by rfl, ?_⟩) ?_ ?_
 rotate_left; exact zp; rotate_left; exact zq
 refine pure_ (i := 3) (N := some 18) (v := ?_) (a' := ?_) #[false,true,true,true,false,false,false,false,false,false] rfl rfl (any_of HT_.out zk) (fun _ _ _ h => h) (Or.inl ⟨by rfl, ?_⟩) ?_ ?_
 rotate_left; exact zp; rotate_left; exact zq
 refine take_ (i := 0) (N := some 15) (v := ?_) (a' := ?_) #[true,true,true,true,false,false,false,false,false,false] rfl rfl (take_ofW HT_.out HW_.out zk) (fun _ _ _ h => h) (Or.inl ⟨by rfl, ?_⟩) hHeld ?_ ?_
 rotate_left
 ·
  intro w' s0
  go_simp
  with_reducible rfl
 rotate_left
 ·
  simp only [Act.put, List.setIfInBounds_toArray, List.set_cons_zero, List.set_cons_succ, i64_w, i32_w]
  rfl
 refine one_ (i := 4) (N := some 19) #[true,true,true,true,true,false,false,false,false,false] rfl rfl (one_of HT_.out zk) (by decide) (fun K hK => ?_)
 refine goes_ Try.func34 zk rfl #[.pointer (some ⟨g105, 0, none⟩), .int .i64 1000] (by rfl) rfl rfl zA ?_
 with_reducible refine (spec_l01Near.calls g105 t102 t103 t104 1000 t113 t114 t115 w _ ?side1 ?side2 A4.out).mono ?_
 (case side1 => exact zX HI105.out)
 (case side2 => exact zB)
 rintro e w16 ⟨rfl, hi, hb, hk⟩
 refine ⟨_, rfl, ?_⟩
 have n_ := y6 (KeepBut.blk hk (g' := gb101) (o := .cells #[.slice none 0 0] 26 (0, 0)) (zG BK101.out) NB101_105.out (by simp)) (Kd.R_mono (Kd.R_keep (IsS68.apart (show IsS68 w _ g105 t102 t103 t104 from zX HI105.out) (zR HO108.out) (by decide)) hk (fun _ h => h.2)) (fun _ h => h.1)) (Kd.R_mono (Kd.R_keep (IsS68.apart (show IsS68 w _ g105 t102 t103 t104 from zX HI105.out) (zR HO111.out) (by decide)) hk (fun _ h => h.2)) (fun _ h => h.1)) (KeepBut.blk hk (g' := gb112) (o := .cells #[.slice Ao10 t106.length co10] 26 (0, 0)) (zG BK112.out) NB112_105.out (by simp)) (hb) (hi)
 clear BK101 HO108 HO111 BK112 HB HI105
 obtain ⟨BK101, HO108, HO111, BK112, HB, HI105⟩ := n_
 (try clear hb)
 (try clear hb2)
 (try clear hk)
 (try clear hi)
 refine hK.out _ _ ((blk_cell BK112.out 0).trans rfl) (fun hHeld => ?_)
 clear hK K
 refine norm_ (a' := ?_) ?_ ?_
 rotate_left
 ·
  show Act.put _ (some 19) _ = _
  simp only [Act.put, List.setIfInBounds_toArray, List.set_cons_zero, List.set_cons_succ, i64_w, i32_w]
  rfl
 refine one_ (i := 5) (N := some 20) #[true,true,true,true,true,true,false,false,false,false] rfl rfl (one_of HT_.out zk) (by decide) (fun K hK => ?_)
 refine Kd.R_lit_step (Kd.int .i64) _ 2 ?hg (N := 20) ?hd (xs := ([1, 5, 20, t113] : List Int)) (inner := [.int .i64 1, .int .i64 5, .int .i64 20, .int .i64 t113]) (ok := fun _ => True) (okp := fun _ => True) ?hr ?hp (fun _ hk => hk) trivial (Below.refl _ _) (Nat.le_refl _) (by simp) ?_; (case hd => rfl); (case hg => rfl); (case hr => first | (go_simp; done) | (go_simp; rfl)); (case hp => exact (Reps.one (show Kd.M (Kd.int .i64) _ _ _ 1 [.int .i64 1] from rfl) (Reps.one (show Kd.M (Kd.int .i64) _ _ _ 5 [.int .i64 5] from rfl) (Reps.one (show Kd.M (Kd.int .i64) _ _ _ 20 [.int .i64 20] from rfl) (Reps.one (show Kd.M (Kd.int .i64) _ _ _ t113 [.int .i64 t113] from rfl) (Reps.none _ _))))))
 intro v117 w17 ho18 hb hg_ hnew_
 clear hg_ hnew_
 (first | rw [← Ny116.out] at ho18 | (simp only [Int.reduceToNat] at ho18; rw [← Ny116.out] at ho18))
 have n_ := y7 (Kd.R_elder' (zR HO108.out) (Kd.R_base ho18) hb) (Kd.R_elder' (zR HO111.out) (Kd.R_base ho18) hb) (Kd.R_lower (Kd.R_new' (Kd.R_new' ho18 (Kd.R_lt (zR HO108.out))) (Kd.R_lt (zR HO111.out))) (below_size (zB))) (zb BK101.out hb) (IsS68.below (zX HI105.out) hb) (zb BK112.out hb) (below_step (zB) hb)
 clear HO108 HO111 BK101 HI105 BK112 HB
 obtain ⟨HO108, HO111, HO118, BK101, HI105, BK112, HB⟩ := n_
 clear hb ho18
 obtain ⟨Ao19, co19, eo19⟩ := Kd.R_slice HO118.out
 (first | subst eo19 | (injection eo19 with f1_ f2_ f3_; have f4_ := f1_.symm; have f5_ := f3_.symm; clear f1_ f2_ f3_; subst f4_; subst f5_))
 refine hK.out _ _ ((blk_cell BK112.out 0).trans rfl) (fun hHeld => ?_)
 clear hK K
 refine norm_ (a' := ?_) ?_ ?_
 rotate_left
 ·
  show Act.put _ (some 20) _ = _
  simp only [Act.put, List.setIfInBounds_toArray, List.set_cons_zero, List.set_cons_succ, i64_w, i32_w]
  rfl
 refine one_ (i := 6) (N := some 21) #[true,true,true,true,true,true,true,false,false,false] rfl rfl (one_of HT_.out zk) (by decide) (fun K hK => ?_)
 refine goes_ Try.func35 zk rfl #[.pointer (some ⟨g105, 0, none⟩), .slice Ao19 y116.length co19] (by rfl) rfl rfl zA ?_
 with_reducible refine (spec_l01Pick.calls g105 t102 t114 t115 _ _ y116 t119 t120 t121 w _ ?side1 ?side2 ?side3 ?side4 ?side5 A5.out).mono ?_
 (case side1 => exact zX HI105.out)
 (case side2 => exact zB)
 (case side3 => exact zC (Kd.R_reads' HO118.out).2.2)
 (case side4 => exact (Kd.R_reads' HO118.out).2.1)
 (case side5 => exact far_slice (IsS68.own_ne HI105.out HO118.out (by decide)))
 rintro e w20 ⟨rfl, hi, hb, hk⟩
 refine ⟨_, rfl, ?_⟩
 have n_ := y7 (KeepBut.blk hk (g' := gb101) (o := .cells #[.slice none 0 0] 26 (0, 0)) (zG BK101.out) NB101_105.out (by simp)) (Kd.R_mono (Kd.R_keep (IsS68.apart (show IsS68 w _ g105 t102 t114 t115 from zX HI105.out) (zR HO108.out) (by decide)) hk (fun _ h => h.2)) (fun _ h => h.1)) (Kd.R_mono (Kd.R_keep (IsS68.apart (show IsS68 w _ g105 t102 t114 t115 from zX HI105.out) (zR HO111.out) (by decide)) hk (fun _ h => h.2)) (fun _ h => h.1)) (KeepBut.blk hk (g' := gb112) (o := .cells #[.slice Ao10 t106.length co10] 26 (0, 0)) (zG BK112.out) NB112_105.out (by simp)) (Kd.R_mono (Kd.R_keep (IsS68.apart (show IsS68 w _ g105 t102 t114 t115 from zX HI105.out) (zR HO118.out) (by decide)) hk (fun _ h => h.2)) (fun _ h => h.1)) (hb) (hi)
 clear BK101 HO108 HO111 BK112 HO118 HB HI105
 obtain ⟨BK101, HO108, HO111, BK112, HO118, HB, HI105⟩ := n_
 (try clear hb)
 (try clear hb2)
 (try clear hk)
 (try clear hi)
 refine hK.out _ _ ((blk_cell BK112.out 0).trans rfl) (fun hHeld => ?_)
 clear hK K
 refine norm_ (a' := ?_) ?_ ?_
 rotate_left
 ·
  show Act.put _ (some 21) _ = _
  simp only [Act.put, List.setIfInBounds_toArray, List.set_cons_zero, List.set_cons_succ, i64_w, i32_w]
  rfl
 refine one_ (i := 7) (N := none) #[true,true,true,true,true,true,true,true,false,false] rfl rfl (one_of HT_.out zk) (by decide) (fun K hK => ?_)
 have hs21 : w20.cell? ⟨gb101, 0, none⟩ = some (.slice none 0 0) := (blk_cell BK101.out 0).trans rfl
 have hfs21 := blk_frozen BK101.out 0
 have hns21_1 := NB112_101.out
 have hms21_1 := NB101_112.out
 refine skip_ (w1 := ?_) (by rfl) rfl ?_ ?_
 rotate_left
 ·
  go_simp
  rfl
 refine hK.out _ _ (((cell_far (p := ⟨gb101, _, none⟩) NB112_101.out _).trans (hHeld))) (fun hHeld => ?_)
 clear hK K
 refine pure_ (i := 8) (N := some 3) (v := ?_) (a' := ?_) #[true,true,true,true,true,true,true,true,true,false] rfl rfl (any_of HT_.out zk) (fun _ _ _ h => h) (Or.inl ⟨by rfl, ?_⟩) ?_ ?_
 rotate_left; exact zp; rotate_left; exact zq
 refine pure_ (i := 9) (N := some 4) (v := ?_) (a' := ?_) #[true,true,true,true,true,true,true,true,true,true] rfl rfl (any_of HT_.out zk) (fun _ _ _ h => h) (Or.inl ⟨by rfl, ?_⟩) ?_ ?_
 rotate_left; exact zp; rotate_left; exact zq
 refine done_ (done_of HT_.out zk) ?_
 try go_wp2
 refine bodyPost_ret (results_ctt rfl _ _ gb101 26 #[.slice Ao10 t106.length co10] (0, 0) _ rfl (by refine zG ?_; refine blk_put (cs := #[.slice none 0 0]) ?_ 0 _ rfl; refine zG ?_; exact BK101.out) Try.underlying26 rfl zk) rfl ?_
 exact ⟨_, _, zE, by refine zR ?_; exact Kd.R_mono (Kd.R_far (p := ⟨gb101, 0, none⟩) (Kd.R_types HO108.out BK101.out (by decide)) (fun _ hk => hk.2) (.slice Ao10 t106.length co10)) (fun _ hk => hk.1.1), by refine zR ?_; exact Kd.R_mono (Kd.R_far (p := ⟨gb101, 0, none⟩) (Kd.R_types HO111.out BK101.out (by decide)) (fun _ hk => hk.2) (.slice Ao10 t106.length co10)) (fun _ hk => hk.1.1), zB⟩
end Go.Proofs.Ytgmciimgmnnhmaa.P
end
section
namespace Go.Proofs.Ytgmciimgmnnhmaa.P
open Go.RowKit Go.Proofs.YtgmciimgmnnhmaaW.PrintWords Go.Proofs.YtgmciimgmnnhmaaW.PrintLast Go.Proofs.YtgmciimgmnnhmaaW.PrintMore
attribute [local go_sem] max2_int min2_int max_two min_two max_three min_three max_four min_four   -- for this text's walks alone
set_option linter.unusedVariables false
set_option linter.unusedSimpArgs false
def spec_CutBySpeed.j0 : Nat → List Int → Int → Int → Bool → List Int → Option (Int × Int)
  | 0, _, _, _, _, _ => none
  | k + 1, x1, x2, x8, x18, x102000 => if x18 = true then (if 2 = 0 then ((spec_l06Fastest.f k x102000 x1 x2).bind fun t104 => (some (t104, 0))) else (some (0, 2))) else (if x8 = 0 then ((spec_l06Fastest.f k x102000 x1 x2).bind fun t105 => (some (t105, 0))) else (some (0, x8)))
def spec_CutBySpeed.f (k : Nat) (l0_0 : List Int) (l1 : List Int) (a2 : Int) : Option (Int × Int) := (spec_l06Heights.f k l0_0 l1).bind fun t102 => (if t102 = 0 then ((spec_l01In.f a2 1 1000).bind fun t103 => (spec_CutBySpeed.j0 k l1 a2 t102 (!t103) l0_0)) else (spec_CutBySpeed.j0 k l1 a2 t102 false l0_0))
theorem spec_CutBySpeed.mono_l : ∀ k, (∀ y0 y1 y2 y3 y4, LeO (spec_CutBySpeed.j0 k y0 y1 y2 y3 y4) (spec_CutBySpeed.j0 (k + 1) y0 y1 y2 y3 y4))
  | 0 => fun _ _ _ _ _ r h => by simp [spec_CutBySpeed.j0] at h
  | k + 1 => by
    have ih0 := spec_CutBySpeed.mono_l k
    · intro y0 y1 y2 y3 y4
      unfold spec_CutBySpeed.j0
      repeat' first | (with_reducible exact ih0 _ _ _ _ _) | (with_reducible exact spec_l06Fastest.mono _ _ _ _) | (with_reducible exact spec_l06Heights.mono _ _ _) | (with_reducible exact LeO.refl _) | (with_reducible exact LeO.none _) | (with_reducible refine LeO.ite ?_ ?_) | (with_reducible refine LeO.bind ?_ (fun _ => ?_)) | exact ih0 _ _ _ _ _ | exact spec_l06Fastest.mono _ _ _ _ | exact spec_l06Heights.mono _ _ _ | exact LeO.none _ | refine LeO.ite ?_ ?_ | refine LeO.bind ?_ (fun _ => ?_)
theorem spec_CutBySpeed.mono : ∀ a0 a1 a2 k, LeO (spec_CutBySpeed.f k a0 a1 a2) (spec_CutBySpeed.f (k + 1) a0 a1 a2) := by
  intro a0 a1 a2 k
  have ih0 := spec_CutBySpeed.mono_l k
  unfold spec_CutBySpeed.f
  repeat' first | (with_reducible exact ih0 _ _ _ _ _) | (with_reducible exact spec_l06Fastest.mono _ _ _ _) | (with_reducible exact spec_l06Heights.mono _ _ _) | (with_reducible exact LeO.refl _) | (with_reducible exact LeO.none _) | (with_reducible refine LeO.ite ?_ ?_) | (with_reducible refine LeO.bind ?_ (fun _ => ?_)) | exact ih0 _ _ _ _ _ | exact spec_l06Fastest.mono _ _ _ _ | exact spec_l06Heights.mono _ _ _ | exact LeO.none _ | refine LeO.ite ?_ ?_ | refine LeO.bind ?_ (fun _ => ?_)
set_option maxHeartbeats 8000000 in
set_option maxRecDepth 100000 in
theorem spec_CutBySpeed.calls (k : Nat) (A0_0 : Option Addr) (c0_0 : Nat) (l0_0 : List Int) (A1 : Option Addr) (c1 : Nat) (l1 : List Int) (a2 : Int) (r1 : Int) (r2 : Int) (w : World) (hr0_0 : Kd.C (Kd.int .i64) w A0_0 l0_0.length l0_0) (hc0_0 : l0_0.length ≤ c0_0) (hr1 : Kd.C (Kd.int .i64) w A1 l1.length l1) (hc1 : l1.length ≤ c1) (h : spec_CutBySpeed.f k l0_0 l1 a2 = some (r1, r2)) :
    Calls Try.prog 17 #[.agg #[.slice A0_0 l0_0.length c0_0], .slice A1 l1.length c1, .int .i64 a2] w fun e w' => e = .returned (.tuple #[.int .i64 r1, .int .i64 r2]) ∧ Below w.heap.size w w' := by
 have hu26 := Try.underlying26
 have HR0_0 := Aside0.mk hr0_0
 have HC0_0 := Aside0.mk hc0_0
 clear hr0_0 hc0_0
 have HR1 := Aside0.mk hr1
 have HC1 := Aside0.mk hc1
 clear hr1 hc1
 have HB := Aside0.mk (Below.refl w.heap.size w)
 have H : ((spec_l06Heights.f k l0_0 l1).bind fun t102 => (if t102 = 0 then ((spec_l01In.f a2 1 1000).bind fun t103 => (spec_CutBySpeed.j0 k l1 a2 t102 (!t103) l0_0)) else (spec_CutBySpeed.j0 k l1 a2 t102 false l0_0))) = some (r1, r2) := h
 clear h
 replace H := Option.bind_eq_some_iff.mp H
 obtain ⟨t102, A40, H⟩ := H
 replace H : (if t102 = 0 then ((spec_l01In.f a2 1 1000).bind fun t103 => (spec_CutBySpeed.j0 k l1 a2 t102 (!t103) l0_0)) else (spec_CutBySpeed.j0 k l1 a2 t102 false l0_0)) = some (r1, r2) := H
 have A4 := Aside0.mk A40
 clear A40
 have HC5 := Aside0.mk H
 clear H
 go_enter Try.func17, Try.ntmps17
 go_upto_region 2 with (first | ((with_reducible refine gate_dst (N := 3) rfl ?_); refine box_event zr (N := 3) zr (cs := #[.slice A0_0 l0_0.length c0_0]) (t := 26) zg ?_; intro gb101 hg w6 hbox hb; have n_ := y4 (below_step (zB) hb) (hbox) ((zS hg : w.heap.size ≤ gb101)) ((zS hg : w.heap.size ≤ gb101)); clear HB; obtain ⟨HB, BK101, GW101, GE101⟩ := n_; clear hb hbox hg; have hcz7_0 := zc BK101.out; have hfz7_0 := blk_frozen BK101.out 0) | ((with_reducible refine gate_callee (f := 45) rfl ?_); refine goesL_ (some 11) rfl rfl Try.func45 zk rfl #[.agg #[.slice A0_0 l0_0.length c0_0], .slice A1 l1.length c1] rfl zA ?_; (with_reducible refine (spec_l06Heights.calls k _ _ l0_0 _ _ l1 t102 _ ?side1 ?side2 ?side3 ?side4 A4.out).mono ?_); (case side1 => exact zC (Kd.C_below HR0_0.out HB.out)); (case side2 => exact HC0_0.out); (case side3 => exact zC (Kd.C_below HR1.out HB.out)); (case side4 => exact HC1.out); rintro e w8 ⟨rfl, hb⟩; refine ⟨_, rfl, ?_⟩; have n_ := y2 (zb BK101.out hb) (below_step (zB) hb); clear BK101 HB; obtain ⟨BK101, HB⟩ := n_; (try clear hb); (try clear hb2); (try clear hk); (try clear hi)))
 (try simp only [Act.put, List.setIfInBounds_toArray, List.set_cons_zero, List.set_cons_succ])
 go_cut [18] (fun v18 wc => ∃ (kq : Nat) (x18_4 : Bool), v18 = .bool x18_4 ∧ Aside0 (spec_CutBySpeed.j0 kq l1 a2 t102 x18_4 l0_0 = some (r1, r2)) ∧ Aside0 (kq ≤ k) ∧ Aside0 (wc.heap[gb101]? = some (.cells #[(.slice A0_0 l0_0.length c0_0)] 26 (0, 0))) ∧ Aside0 (Below w.heap.size w wc))
 case first =>
  have H := HC5.out
  clear HC5
  by_cases c9 : t102 = 0
  ·
   rw [if_pos c9] at H
   have c9b0 : (t102 == 0) = true := beq_iff_eq.mpr c9
   have c9b1 : (t102 != 0) = false := bne_eq_false_iff_eq.mpr c9
   clear c9
   (first | rw [c9b0] | (simp only [i64_w, i32_w]; rw [c9b0]) | skip)
   replace H := Option.bind_eq_some_iff.mp H
   obtain ⟨t103, A100, H⟩ := H
   replace H : (spec_CutBySpeed.j0 k l1 a2 t102 (!t103) l0_0) = some (r1, r2) := H
   have A10 := Aside0.mk A100
   clear A100
   have H' := Aside0.mk H
   clear H
   go_wp2_with (first | (go_at_call 40; (with_reducible refine (spec_l01In.calls a2 1 1000 t103 _ A10.out).mono ?_); rintro e w' ⟨rfl, ⟨nd, rfl⟩⟩))
   go_meet
   case rel => exact ⟨_, (!t103), zF, H', ⟨by first | omega | exact Nat.le_refl _⟩, ⟨zG BK101.out⟩, ⟨zB⟩⟩
  rw [if_neg c9] at H
  have c9b0 : (t102 == 0) = false := beq_eq_false_iff_ne.mpr c9
  have c9b1 : (t102 != 0) = true := bne_iff_ne.mpr c9
  (first | rw [c9b0] | (simp only [i64_w, i32_w]; rw [c9b0]) | skip)
  have H' := Aside0.mk H
  clear H
  go_wp2
  go_meet
  case rel => exact ⟨_, (false), zF, H', ⟨by first | omega | exact Nat.le_refl _⟩, ⟨zG BK101.out⟩, ⟨zB⟩⟩
 clear HC5
 try clear c1
 try clear hcz7_0
 try clear hfz7_0
 obtain ⟨kq, x18_4, rfl, HA, HJ4, BK101, HB⟩ := hcut
 cases kq with
 | zero => exact absurd HA.out (by simp [spec_CutBySpeed.j0])
 | succ kj4 =>
   have H := HA.out
   clear HA
   simp only [spec_CutBySpeed.j0] at H
   by_cases c11 : x18_4 = true
   · subst c11
     have H1 : (if 2 = 0 then ((spec_l06Fastest.f kj4 l0_0 l1 a2).bind fun t104 => (some (t104, 0))) else (some (0, 2))) = some (r1, r2) := by rw [if_pos rfl] at H; exact H
     clear H
     have H := H1
     clear H1
     by_cases c12 : 2 = 0
     · exact absurd c12 (by decide)
     · rw [if_neg c12] at H
       have c12b0 : (2 == 0) = false := beq_eq_false_iff_ne.mpr c12
       have c12b1 : (2 != 0) = true := bne_iff_ne.mpr c12
       simp only [Option.some.injEq, Prod.mk.injEq] at H
       obtain ⟨rfl, rfl⟩ := H
       go_wp2
       go_ret2
       exact ⟨zE, zB⟩
   · replace c11 := Bool.eq_false_iff.mpr c11
     subst c11
     have H1 : (if t102 = 0 then ((spec_l06Fastest.f kj4 l0_0 l1 a2).bind fun t105 => (some (t105, 0))) else (some (0, t102))) = some (r1, r2) := by rw [if_neg (show ¬ (false = true) by decide)] at H; exact H
     clear H
     have H := H1
     clear H1
     by_cases c16 : t102 = 0
     · rw [if_pos c16] at H
       have c16b0 : (t102 == 0) = true := beq_iff_eq.mpr c16
       have c16b1 : (t102 != 0) = false := bne_eq_false_iff_eq.mpr c16
       clear c16
       replace H := Option.bind_eq_some_iff.mp H
       obtain ⟨t105, A170, H⟩ := H
       replace H : (some (t105, 0)) = some (r1, r2) := H
       have A17 := Aside0.mk A170
       clear A170
       simp only [Option.some.injEq, Prod.mk.injEq] at H
       obtain ⟨rfl, rfl⟩ := H
       have hcz18_0 := zc BK101.out
       have hfz18_0 := blk_frozen BK101.out 0
       go_wp2_with (first | ((with_reducible refine gate_callee (f := 48) rfl ?_); refine goesL_ (some 25) rfl rfl Try.func48 zk rfl #[.agg #[.slice A0_0 l0_0.length c0_0], .slice A1 l1.length c1, .int .i64 a2] rfl zA ?_; (with_reducible refine (spec_l06Fastest.calls kj4 _ _ l0_0 _ _ l1 a2 t105 _ ?side1 ?side2 ?side3 ?side4 A17.out).mono ?_); (case side1 => exact zC (Kd.C_below HR0_0.out HB.out)); (case side2 => exact HC0_0.out); (case side3 => exact zC (Kd.C_below HR1.out HB.out)); (case side4 => exact HC1.out); rintro e w19 ⟨rfl, hb⟩; refine ⟨_, rfl, ?_⟩; have n_ := y2 (zb BK101.out hb) (below_step (zB) hb); clear BK101 HB; obtain ⟨BK101, HB⟩ := n_; (try clear hb); (try clear hb2); (try clear hk); (try clear hi)))
       go_ret2
       exact ⟨zE, zB⟩
     · rw [if_neg c16] at H
       have c16b0 : (t102 == 0) = false := beq_eq_false_iff_ne.mpr c16
       have c16b1 : (t102 != 0) = true := bne_iff_ne.mpr c16
       simp only [Option.some.injEq, Prod.mk.injEq] at H
       obtain ⟨rfl, rfl⟩ := H
       go_wp2
       go_ret2
       exact ⟨zE, zB⟩
end Go.Proofs.Ytgmciimgmnnhmaa.P
end
section
namespace Go.Proofs.Ytgmciimgmnnhmaa.P
open Go.RowKit Go.Proofs.YtgmciimgmnnhmaaW.PrintWords Go.Proofs.YtgmciimgmnnhmaaW.PrintLast Go.Proofs.YtgmciimgmnnhmaaW.PrintMore
attribute [local go_sem] max2_int min2_int max_two min_two max_three min_three max_four min_four   -- for this text's walks alone
set_option linter.unusedVariables false
set_option linter.unusedSimpArgs false
def slices_Index_Sint64_int64.l0 : Nat → List Int → Int → Int → Int → Option (Int)
  | 0, _, _, _, _ => none
  | k + 1, x0, x1, x7, x8 => if x8 < x7 then (if 0 ≤ x8 then (if x8 < (x0.length : Int) then (if x1 = (rd x0 x8) then (some x8) else (slices_Index_Sint64_int64.l0 k x0 x1 x7 (wrap64 (x8 + 1)))) else (none)) else (none)) else (some (-1))
def slices_Index_Sint64_int64.f (k : Nat) (l0 : List Int) (a1 : Int) : Option (Int) := slices_Index_Sint64_int64.l0 k l0 a1 (l0.length : Int) 0
theorem slices_Index_Sint64_int64.mono_l : ∀ k, (∀ y0 y1 y2 y3, LeO (slices_Index_Sint64_int64.l0 k y0 y1 y2 y3) (slices_Index_Sint64_int64.l0 (k + 1) y0 y1 y2 y3))
  | 0 => fun _ _ _ _ r h => by simp [slices_Index_Sint64_int64.l0] at h
  | k + 1 => by
    have ih0 := slices_Index_Sint64_int64.mono_l k
    · intro y0 y1 y2 y3
      unfold slices_Index_Sint64_int64.l0
      repeat' first | (with_reducible exact ih0 _ _ _ _) | (with_reducible exact LeO.refl _) | (with_reducible exact LeO.none _) | (with_reducible refine LeO.ite ?_ ?_) | (with_reducible refine LeO.bind ?_ (fun _ => ?_)) | exact ih0 _ _ _ _ | exact LeO.none _ | refine LeO.ite ?_ ?_ | refine LeO.bind ?_ (fun _ => ?_)
theorem slices_Index_Sint64_int64.mono : ∀ a0 a1 k, LeO (slices_Index_Sint64_int64.f k a0 a1) (slices_Index_Sint64_int64.f (k + 1) a0 a1) := by
  intro a0 a1 k
  have ih0 := slices_Index_Sint64_int64.mono_l k
  unfold slices_Index_Sint64_int64.f
  repeat' first | (with_reducible exact ih0 _ _ _ _) | (with_reducible exact LeO.refl _) | (with_reducible exact LeO.none _) | (with_reducible refine LeO.ite ?_ ?_) | (with_reducible refine LeO.bind ?_ (fun _ => ?_)) | exact ih0 _ _ _ _ | exact LeO.none _ | refine LeO.ite ?_ ?_ | refine LeO.bind ?_ (fun _ => ?_)
set_option maxHeartbeats 8000000 in
set_option maxRecDepth 100000 in
theorem slices_Index_Sint64_int64.calls (k : Nat) (A0 : Option Addr) (c0 : Nat) (l0 : List Int) (a1 : Int) (r : Int) (w : World) (hr0 : Kd.C (Kd.int .i64) w A0 l0.length l0) (hc0 : l0.length ≤ c0) (h : slices_Index_Sint64_int64.f k l0 a1 = some r) :
    Calls Try.prog 69 #[.slice A0 l0.length c0, .int .i64 a1] w fun e w' => e = .returned (.int .i64 r) ∧ Drawn0 w w' := by
 have HR0 := Aside0.mk hr0
 have HC0 := Aside0.mk hc0
 clear hr0 hc0
 have H : (slices_Index_Sint64_int64.l0 k l0 a1 (l0.length : Int) 0) = some r := h
 clear h
 have H' := Aside0.mk H
 clear H
 go_enter Try.func69, Try.ntmps69
 go_wp2
 go_loopg [8] k (fun kq v8 w' => ∃ (x8_1 : Int), v8 = .int .i64 x8_1 ∧ Aside0 (slices_Index_Sint64_int64.l0 kq l0 a1 (l0.length : Int) x8_1 = some r) ∧ Aside0 (kq ≤ k) ∧ Drawn0 w w')
 case atStart => exact ⟨(0), zF, H', ⟨Nat.le_refl _⟩, by repeat (first | exact Drawn0.refl _ | apply Drawn0.step)⟩
 clear H'
 obtain ⟨x8_1, rfl, HA, HK1, ⟨m1, rfl⟩⟩ := hrel
 cases gk with
 | zero => exact absurd HA.out (by simp [slices_Index_Sint64_int64.l0])
 | succ k1 =>
   have H := HA.out
   clear HA
   simp only [slices_Index_Sint64_int64.l0] at H
   by_cases c3 : x8_1 < (l0.length : Int)
   · rw [if_pos c3] at H
     have c3b0 : decide (x8_1 < (l0.length : Int)) = true := decide_eq_true c3
     clear c3
     by_cases c4 : 0 ≤ x8_1
     · rw [if_pos c4] at H
       have c4b0 : decide (0 ≤ x8_1) = true := decide_eq_true c4
       clear c4
       by_cases c5 : x8_1 < (l0.length : Int)
       · rw [if_pos c5] at H
         have c5b0 : decide (x8_1 < (l0.length : Int)) = true := decide_eq_true c5
         clear c5
         by_cases c6 : a1 = (rd l0 x8_1)
         · rw [if_pos c6] at H
           have c6b0 : (a1 == (rd l0 x8_1)) = true := beq_iff_eq.mpr c6
           have c6b1 : (a1 != (rd l0 x8_1)) = false := bne_eq_false_iff_eq.mpr c6
           clear c6
           obtain rfl := Option.some.inj H
           have p101 : 0 ≤ (x8_1 : Int) := zD
           have q101 : x8_1 < (l0.length : Int) := zD
           obtain ⟨ad101, e101, hx101_0⟩ := Kd.at_int HR0.out x8_1 p101 q101
           cases e101
           replace p101 := eq_true p101
           replace q101 := eq_true q101
           go_wp2
           go_ret
           exact ⟨by first | rfl | (simp; done) | (simp [*]; done), by repeat (first | exact Drawn0.refl _ | apply Drawn0.step)⟩
         · rw [if_neg c6] at H
           have c6b0 : (a1 == (rd l0 x8_1)) = false := beq_eq_false_iff_ne.mpr c6
           have c6b1 : (a1 != (rd l0 x8_1)) = true := bne_iff_ne.mpr c6
           have H' := Aside0.mk H
           clear H
           have p101 : 0 ≤ (x8_1 : Int) := zD
           have q101 : x8_1 < (l0.length : Int) := zD
           obtain ⟨ad101, e101, hx101_0⟩ := Kd.at_int HR0.out x8_1 p101 q101
           cases e101
           replace p101 := eq_true p101
           replace q101 := eq_true q101
           go_wp2
           go_roundg k1
           case measure => have := HK1.out; omega
           case rel => exact ⟨(wrap64 (x8_1 + 1)), zF, H', ⟨by have := HK1.out; omega⟩, by repeat (first | exact Drawn0.refl _ | apply Drawn0.step)⟩
       · rw [if_neg c5] at H
         exact absurd H (by simp)
     · rw [if_neg c4] at H
       exact absurd H (by simp)
   · rw [if_neg c3] at H
     have c3b0 : decide (x8_1 < (l0.length : Int)) = false := decide_eq_false c3
     clear c3
     obtain rfl := Option.some.inj H
     go_wp2
     go_ret
     exact ⟨by first | rfl | (simp; done) | (simp [*]; done), by repeat (first | exact Drawn0.refl _ | apply Drawn0.step)⟩
end Go.Proofs.Ytgmciimgmnnhmaa.P
end
section
namespace Go.Proofs.Ytgmciimgmnnhmaa.P
open Go.RowKit Go.Proofs.YtgmciimgmnnhmaaW.PrintWords Go.Proofs.YtgmciimgmnnhmaaW.PrintLast Go.Proofs.YtgmciimgmnnhmaaW.PrintMore
attribute [local go_sem] max2_int min2_int max_two min_two max_three min_three max_four min_four   -- for this text's walks alone
set_option linter.unusedVariables false
set_option linter.unusedSimpArgs false
def slices_Max_Sint64_int64.l0 : Nat → List Int → Int → Int → Option (Int)
  | 0, _, _, _ => none
  | k + 1, x0, x3, x4 => if x4 < (x0.length : Int) then (if 0 ≤ x4 then (slices_Max_Sint64_int64.l0 k x0 (mx x3 (rd x0 x4)) (wrap64 (x4 + 1))) else (none)) else (some x3)
def slices_Max_Sint64_int64.f (k : Nat) (l0 : List Int) : Option (Int) := if (l0.length : Int) < 1 then (none) else (if 0 < (l0.length : Int) then (slices_Max_Sint64_int64.l0 k l0 (rd l0 0) 1) else (none))
theorem slices_Max_Sint64_int64.mono_l : ∀ k, (∀ y0 y1 y2, LeO (slices_Max_Sint64_int64.l0 k y0 y1 y2) (slices_Max_Sint64_int64.l0 (k + 1) y0 y1 y2))
  | 0 => fun _ _ _ r h => by simp [slices_Max_Sint64_int64.l0] at h
  | k + 1 => by
    have ih0 := slices_Max_Sint64_int64.mono_l k
    · intro y0 y1 y2
      unfold slices_Max_Sint64_int64.l0
      repeat' first | (with_reducible exact ih0 _ _ _) | (with_reducible exact LeO.refl _) | (with_reducible exact LeO.none _) | (with_reducible refine LeO.ite ?_ ?_) | (with_reducible refine LeO.bind ?_ (fun _ => ?_)) | exact ih0 _ _ _ | exact LeO.none _ | refine LeO.ite ?_ ?_ | refine LeO.bind ?_ (fun _ => ?_)
theorem slices_Max_Sint64_int64.mono : ∀ a0 k, LeO (slices_Max_Sint64_int64.f k a0) (slices_Max_Sint64_int64.f (k + 1) a0) := by
  intro a0 k
  have ih0 := slices_Max_Sint64_int64.mono_l k
  unfold slices_Max_Sint64_int64.f
  repeat' first | (with_reducible exact ih0 _ _ _) | (with_reducible exact LeO.refl _) | (with_reducible exact LeO.none _) | (with_reducible refine LeO.ite ?_ ?_) | (with_reducible refine LeO.bind ?_ (fun _ => ?_)) | exact ih0 _ _ _ | exact LeO.none _ | refine LeO.ite ?_ ?_ | refine LeO.bind ?_ (fun _ => ?_)
set_option maxHeartbeats 8000000 in
set_option maxRecDepth 100000 in
theorem slices_Max_Sint64_int64.calls (k : Nat) (A0 : Option Addr) (c0 : Nat) (l0 : List Int) (r : Int) (w : World) (hr0 : Kd.C (Kd.int .i64) w A0 l0.length l0) (hc0 : l0.length ≤ c0) (h : slices_Max_Sint64_int64.f k l0 = some r) :
    Calls Try.prog 70 #[.slice A0 l0.length c0] w fun e w' => e = .returned (.int .i64 r) ∧ Below w.heap.size w w' := by
 have HR0 := Aside0.mk hr0
 have HC0 := Aside0.mk hc0
 clear hr0 hc0
 have HB := Aside0.mk (Below.refl w.heap.size w)
 have H : (if (l0.length : Int) < 1 then (none) else (if 0 < (l0.length : Int) then (slices_Max_Sint64_int64.l0 k l0 (rd l0 0) 1) else (none))) = some r := h
 clear h
 by_cases c2 : (l0.length : Int) < 1
 ·
  rw [if_pos c2] at H
  exact absurd H (by simp)
 rw [if_neg c2] at H
 have c2b0 : decide ((l0.length : Int) < 1) = false := decide_eq_false c2
 have c2b1 : decide (l0.length < 1) = false := decide_eq_false (by omega)
 clear c2
 by_cases c3 : 0 < (l0.length : Int)
 case neg => rw [if_neg c3] at H; exact absurd H (by simp)
 rw [if_pos c3] at H
 have c3b0 : decide (0 < (l0.length : Int)) = true := decide_eq_true c3
 have c3b1 : decide (0 < l0.length) = true := decide_eq_true (by omega)
 clear c3
 have H' := Aside0.mk H
 clear H
 have p101 : 0 ≤ (0 : Int) := (by omega)
 have q101 : 0 < (l0.length : Int) := zD
 obtain ⟨ad101, e101, hx101_0⟩ := Kd.at_int HR0.out 0 p101 q101
 cases e101
 have qi101 : (0 < l0.length) = True := eq_true (by omega)
 (try rw [show ((0 : Int)).toNat = 0 from rfl] at hx101_0)
 (try rw [Addr.add_zero'] at hx101_0)
 replace p101 := eq_true p101
 replace q101 := eq_true q101
 go_enter Try.func70, Try.ntmps70
 go_wp2
 go_loopg [3, 4] k (fun kq v3 v4 w' => ∃ (x3_1 : Int) (x4_1 : Int), v3 = .int .i64 x3_1 ∧ v4 = .int .i64 x4_1 ∧ Aside0 (slices_Max_Sint64_int64.l0 kq l0 x3_1 x4_1 = some r) ∧ Aside0 (kq ≤ k) ∧ Aside0 (Below w.heap.size w w'))
 case atStart => exact ⟨(rd l0 0), (1), zF, zF, H', ⟨Nat.le_refl _⟩, ⟨zB⟩⟩
 clear H'
 try clear c2
 try clear c2b0
 try clear c2b1
 try clear c3
 try clear c3b0
 try clear c3b1
 try clear hx101_0
 try clear p101
 try clear q101
 obtain ⟨x3_1, x4_1, rfl, rfl, HA, HK1, HB⟩ := hrel
 cases gk with
 | zero => exact absurd HA.out (by simp [slices_Max_Sint64_int64.l0])
 | succ k1 =>
   have H := HA.out
   clear HA
   simp only [slices_Max_Sint64_int64.l0] at H
   by_cases c4 : x4_1 < (l0.length : Int)
   · rw [if_pos c4] at H
     have c4b0 : decide (x4_1 < (l0.length : Int)) = true := decide_eq_true c4
     clear c4
     by_cases c5 : 0 ≤ x4_1
     · rw [if_pos c5] at H
       have c5b0 : decide (0 ≤ x4_1) = true := decide_eq_true c5
       clear c5
       obtain ⟨ji6, hji6⟩ : ∃ j_ : Int, (mx x3_1 (rd l0 x4_1)) = j_ := ⟨_, rfl⟩
       replace H : (slices_Max_Sint64_int64.l0 k1 l0 ji6 (wrap64 (x4_1 + 1))) = some r := by first | (rw [hji6] at H; exact H) | (simp only [hji6] at H ⊢; exact H)
       have hji6_ : (if x3_1 < (rd l0 x4_1) then (rd l0 x4_1) else x3_1) = ji6 := hji6
       have H' := Aside0.mk H
       clear H
       have p102 : 0 ≤ (x4_1 : Int) := zD
       have q102 : x4_1 < (l0.length : Int) := zD
       obtain ⟨ad102, e102, hx102_0⟩ := Kd.at_int HR0.out x4_1 p102 q102
       obtain rfl : ad101 = ad102 := (by injection e102)
       replace hx102_0 := (HB.out.cell (World.block_lt_of_cell? w _ hx102_0)).trans hx102_0
       replace p102 := eq_true p102
       replace q102 := eq_true q102
       go_wp2
       go_roundg k1
       case measure => have := HK1.out; omega
       case rel => exact ⟨(ji6), (wrap64 (x4_1 + 1)), (by first | rfl | (simp; done) | (simp only [← hji6] <;> (first | rfl | simp)) | (simp [*]; done)), zF, H', ⟨by have := HK1.out; omega⟩, ⟨zB⟩⟩
     · rw [if_neg c5] at H
       exact absurd H (by simp)
   · rw [if_neg c4] at H
     have c4b0 : decide (x4_1 < (l0.length : Int)) = false := decide_eq_false c4
     clear c4
     obtain rfl := Option.some.inj H
     go_wp2
     go_ret
     exact ⟨zE, zB⟩
end Go.Proofs.Ytgmciimgmnnhmaa.P
end
section
namespace Go.Proofs.Ytgmciimgmnnhmaa.P
open Go.RowKit Go.Proofs.YtgmciimgmnnhmaaW.PrintWords Go.Proofs.YtgmciimgmnnhmaaW.PrintLast Go.Proofs.YtgmciimgmnnhmaaW.PrintMore
attribute [local go_sem] max2_int min2_int max_two min_two max_three min_three max_four min_four   -- for this text's walks alone
set_option linter.unusedVariables false
set_option linter.unusedSimpArgs false
def impl_byHeight.f (k : Nat) (l0 : List Int) : Option (Int) := (slices_Max_Sint64_int64.f k l0).bind fun t101 => ((slices_Index_Sint64_int64.f k l0 t101).bind fun t102 => (some t102))
theorem impl_byHeight.mono : ∀ a0 k, LeO (impl_byHeight.f k a0) (impl_byHeight.f (k + 1) a0) := by
  intro a0 k
  unfold impl_byHeight.f
  repeat' first | (with_reducible exact slices_Index_Sint64_int64.mono _ _ _) | (with_reducible exact slices_Max_Sint64_int64.mono _ _) | (with_reducible exact LeO.refl _) | (with_reducible exact LeO.none _) | (with_reducible refine LeO.ite ?_ ?_) | (with_reducible refine LeO.bind ?_ (fun _ => ?_)) | exact slices_Index_Sint64_int64.mono _ _ _ | exact slices_Max_Sint64_int64.mono _ _ | exact LeO.none _ | refine LeO.ite ?_ ?_ | refine LeO.bind ?_ (fun _ => ?_)
set_option maxHeartbeats 8000000 in
set_option maxRecDepth 100000 in
theorem impl_byHeight.calls (k : Nat) (A0 : Option Addr) (c0 : Nat) (l0 : List Int) (r : Int) (w : World) (hr0 : Kd.C (Kd.int .i64) w A0 l0.length l0) (hc0 : l0.length ≤ c0) (h : impl_byHeight.f k l0 = some r) :
    Calls Try.prog 49 #[.slice A0 l0.length c0] w fun e w' => e = .returned (.int .i64 r) ∧ Below w.heap.size w w' := by
 have HR0 := Aside0.mk hr0
 have HC0 := Aside0.mk hc0
 clear hr0 hc0
 have HB := Aside0.mk (Below.refl w.heap.size w)
 have H : ((slices_Max_Sint64_int64.f k l0).bind fun t101 => ((slices_Index_Sint64_int64.f k l0 t101).bind fun t102 => (some t102))) = some r := h
 clear h
 replace H := Option.bind_eq_some_iff.mp H
 obtain ⟨t101, A20, H⟩ := H
 replace H : ((slices_Index_Sint64_int64.f k l0 t101).bind fun t102 => (some t102)) = some r := H
 have A2 := Aside0.mk A20
 clear A20
 replace H := Option.bind_eq_some_iff.mp H
 obtain ⟨t102, A30, H⟩ := H
 replace H : (some t102) = some r := H
 have A3 := Aside0.mk A30
 clear A30
 obtain rfl := Option.some.inj H
 go_enter Try.func49, Try.ntmps49
 go_wp2_with (first | ((with_reducible refine gate_callee (f := 70) rfl ?_); refine goesL_ (some 5) rfl rfl Try.func70 zk rfl #[.slice A0 l0.length c0] rfl zA ?_; (with_reducible refine (slices_Max_Sint64_int64.calls k _ _ l0 t101 _ ?side1 ?side2 A2.out).mono ?_); (case side1 => exact zC HR0.out); (case side2 => exact HC0.out); rintro e w4 ⟨rfl, hb⟩; refine ⟨_, rfl, ?_⟩; replace HB := Aside0.mk (below_step (zB) hb); (try clear hb); (try clear hb2); (try clear hk); (try clear hi)) | ((with_reducible refine gate_callee (f := 69) rfl ?_); refine goesL_ (some 6) rfl rfl Try.func69 zk rfl #[.slice A0 l0.length c0, .int .i64 t101] rfl zA ?_; (with_reducible refine (slices_Index_Sint64_int64.calls k _ _ l0 t101 t102 _ ?side1 ?side2 A3.out).mono ?_); (case side1 => exact zC (Kd.C_below HR0.out HB.out)); (case side2 => exact HC0.out); rintro e w' ⟨rfl, ⟨nd, rfl⟩⟩; refine ⟨_, rfl, ?_⟩))
 go_ret
 exact ⟨zE, zB⟩
end Go.Proofs.Ytgmciimgmnnhmaa.P
end
section
namespace Go.Proofs.Ytgmciimgmnnhmaa.P
open Go.RowKit Go.Proofs.YtgmciimgmnnhmaaW.PrintWords Go.Proofs.YtgmciimgmnnhmaaW.PrintLast Go.Proofs.YtgmciimgmnnhmaaW.PrintMore
attribute [local go_sem] max2_int min2_int max_two min_two max_three min_three max_four min_four   -- for this text's walks alone
set_option linter.unusedVariables false
set_option linter.unusedSimpArgs false
def impl_CutByHeight.f (k : Nat) (l0_0 : List Int) (l1 : List Int) : Option (Int × Int) := (impl_Garden_areHeights.f l0_0 l1).bind fun t102 => ((impl_gardenCode.f l0_0 t102).bind fun t103 => (if t103 = 0 then ((impl_byHeight.f k l1).bind fun t104 => (some (t104, 0))) else (some (0, t103))))
theorem impl_CutByHeight.mono : ∀ a0 a1 k, LeO (impl_CutByHeight.f k a0 a1) (impl_CutByHeight.f (k + 1) a0 a1) := by
  intro a0 a1 k
  unfold impl_CutByHeight.f
  repeat' first | (with_reducible exact impl_byHeight.mono _ _) | (with_reducible exact LeO.refl _) | (with_reducible exact LeO.none _) | (with_reducible refine LeO.ite ?_ ?_) | (with_reducible refine LeO.bind ?_ (fun _ => ?_)) | exact impl_byHeight.mono _ _ | exact LeO.none _ | refine LeO.ite ?_ ?_ | refine LeO.bind ?_ (fun _ => ?_)
set_option maxHeartbeats 8000000 in
set_option maxRecDepth 100000 in
theorem impl_CutByHeight.calls (k : Nat) (A0_0 : Option Addr) (c0_0 : Nat) (l0_0 : List Int) (A1 : Option Addr) (c1 : Nat) (l1 : List Int) (r1 : Int) (r2 : Int) (w : World) (hr0_0 : Kd.C (Kd.int .i64) w A0_0 l0_0.length l0_0) (hc0_0 : l0_0.length ≤ c0_0) (hr1 : Kd.C (Kd.int .i64) w A1 l1.length l1) (hc1 : l1.length ≤ c1) (h : impl_CutByHeight.f k l0_0 l1 = some (r1, r2)) :
    Calls Try.prog 18 #[.agg #[.slice A0_0 l0_0.length c0_0], .slice A1 l1.length c1] w fun e w' => e = .returned (.tuple #[.int .i64 r1, .int .i64 r2]) ∧ Below w.heap.size w w' := by
 have hu26 := Try.underlying26
 have HR0_0 := Aside0.mk hr0_0
 have HC0_0 := Aside0.mk hc0_0
 clear hr0_0 hc0_0
 have HR1 := Aside0.mk hr1
 have HC1 := Aside0.mk hc1
 clear hr1 hc1
 have HB := Aside0.mk (Below.refl w.heap.size w)
 have H : ((impl_Garden_areHeights.f l0_0 l1).bind fun t102 => ((impl_gardenCode.f l0_0 t102).bind fun t103 => (if t103 = 0 then ((impl_byHeight.f k l1).bind fun t104 => (some (t104, 0))) else (some (0, t103))))) = some (r1, r2) := h
 clear h
 replace H := Option.bind_eq_some_iff.mp H
 obtain ⟨t102, A30, H⟩ := H
 replace H : ((impl_gardenCode.f l0_0 t102).bind fun t103 => (if t103 = 0 then ((impl_byHeight.f k l1).bind fun t104 => (some (t104, 0))) else (some (0, t103)))) = some (r1, r2) := H
 have A3 := Aside0.mk A30
 clear A30
 replace H := Option.bind_eq_some_iff.mp H
 obtain ⟨t103, A40, H⟩ := H
 replace H : (if t103 = 0 then ((impl_byHeight.f k l1).bind fun t104 => (some (t104, 0))) else (some (0, t103))) = some (r1, r2) := H
 have A4 := Aside0.mk A40
 clear A40
 by_cases c5 : t103 = 0
 ·
  rw [if_pos c5] at H
  have c5b0 : (t103 == 0) = true := beq_iff_eq.mpr c5
  have c5b1 : (t103 != 0) = false := bne_eq_false_iff_eq.mpr c5
  clear c5
  replace H := Option.bind_eq_some_iff.mp H
  obtain ⟨t104, A60, H⟩ := H
  replace H : (some (t104, 0)) = some (r1, r2) := H
  have A6 := Aside0.mk A60
  clear A60
  simp only [Option.some.injEq, Prod.mk.injEq] at H
  obtain ⟨rfl, rfl⟩ := H
  go_enter Try.func18, Try.ntmps18
  try go_wp2_with (first | ((with_reducible refine gate_dst (N := 2) rfl ?_); refine box_event zr (N := 2) zr (cs := #[.slice A0_0 l0_0.length c0_0]) (t := 26) zg ?_; intro gb101 hg w7 hbox hb; have n_ := y4 (below_step (zB) hb) (hbox) ((zS hg : w.heap.size ≤ gb101)) ((zS hg : w.heap.size ≤ gb101)); clear HB; obtain ⟨HB, BK101, GW101, GE101⟩ := n_; clear hb hbox hg))
  have n_ := y2 (blk_drew BK101.out) (below_drew1 HB.out)
  clear BK101 HB
  obtain ⟨BK101, HB⟩ := n_
  refine start_ (n := 6) (S := fun w' => w'.cell? ⟨gb101, 0, none⟩ = some (.slice A0_0 l0_0.length c0_0)) (ds := []) #[false,false,false,false,false,false] zk rfl rfl ((blk_cell BK101.out 0).trans rfl) (fun hHeld => ?_)
  generalize w7.drew = w8 at BK101 HB hHeld ⊢
  refine pure_ (i := 2) (N := some 9) (v := ?_) (a' := ?_) #[false,false,true,false,false,false] rfl rfl zk (fun _ _ _ h => h) (Or.inl ⟨by rfl, ?_⟩) ?_ ?_
  rotate_left; exact zp; rotate_left; exact zq
  refine take_ (i := 0) (N := some 7) (v := ?_) (a' := ?_) #[true,false,true,false,false,false] rfl rfl zk (fun _ _ _ h => h) (Or.inl ⟨by rfl, ?_⟩) hHeld ?_ ?_
  rotate_left
  ·
   intro w' s0
   go_simp
   with_reducible rfl
  rotate_left
  ·
   simp only [Act.put, List.setIfInBounds_toArray, List.set_cons_zero, List.set_cons_succ, i64_w, i32_w]
   rfl
  refine take_ (i := 1) (N := some 8) (v := ?_) (a' := ?_) #[true,true,true,false,false,false] rfl rfl zk (fun _ _ _ h => h) (Or.inl ⟨by rfl, ?_⟩) hHeld ?_ ?_
  rotate_left
  ·
   intro w' s0
   go_simp
   with_reducible rfl
  rotate_left
  ·
   simp only [Act.put, List.setIfInBounds_toArray, List.set_cons_zero, List.set_cons_succ, i64_w, i32_w]
   rfl
  refine one_ (i := 3) (N := some 10) #[true,true,true,true,false,false] rfl rfl zk (by decide) (fun K hK => ?_)
  refine goes_ Try.func43 zk rfl #[.agg #[.slice A0_0 l0_0.length c0_0], .slice A1 l1.length c1] (by rfl) rfl rfl zA ?_
  with_reducible refine (impl_Garden_areHeights.calls _ _ l0_0 _ _ l1 t102 _ ?side1 ?side2 ?side3 ?side4 A3.out).mono ?_
  (case side1 => exact zC (Kd.C_below HR0_0.out HB.out))
  (case side2 => exact HC0_0.out)
  (case side3 => exact zC (Kd.C_below HR1.out HB.out))
  (case side4 => exact HC1.out)
  rintro e w9 ⟨rfl, hb⟩
  refine ⟨_, rfl, ?_⟩
  have n_ := y2 (zb BK101.out hb) (below_step (zB) hb)
  clear BK101 HB
  obtain ⟨BK101, HB⟩ := n_
  (try clear hb)
  (try clear hb2)
  (try clear hk)
  (try clear hi)
  refine hK.out _ _ ((blk_cell BK101.out 0).trans rfl) (fun hHeld => ?_)
  clear hK K
  refine norm_ (a' := ?_) ?_ ?_
  rotate_left
  ·
   show Act.put _ (some 10) _ = _
   simp only [Act.put, List.setIfInBounds_toArray, List.set_cons_zero, List.set_cons_succ, i64_w, i32_w]
   rfl
  refine one_ (i := 4) (N := some 11) #[true,true,true,true,true,false] rfl rfl zk (by decide) (fun K hK => ?_)
  refine goes_ Try.func26 zk rfl #[.agg #[.slice A0_0 l0_0.length c0_0], .bool t102] (by rfl) rfl rfl zA ?_
  with_reducible refine (impl_gardenCode.calls _ _ l0_0 t102 t103 _ ?side1 ?side2 A4.out).mono ?_
  (case side1 => exact zC (Kd.C_below HR0_0.out HB.out))
  (case side2 => exact HC0_0.out)
  rintro e w10 ⟨rfl, hb⟩
  refine ⟨_, rfl, ?_⟩
  have n_ := y2 (zb BK101.out hb) (below_step (zB) hb)
  clear BK101 HB
  obtain ⟨BK101, HB⟩ := n_
  (try clear hb)
  (try clear hb2)
  (try clear hk)
  (try clear hi)
  refine hK.out _ _ ((blk_cell BK101.out 0).trans rfl) (fun hHeld => ?_)
  clear hK K
  refine norm_ (a' := ?_) ?_ ?_
  rotate_left
  ·
   show Act.put _ (some 11) _ = _
   simp only [Act.put, List.setIfInBounds_toArray, List.set_cons_zero, List.set_cons_succ, i64_w, i32_w]
   rfl
  refine pure_ (i := 5) (N := some 6) (v := ?_) (a' := ?_) #[true,true,true,true,true,true] rfl rfl zk (fun _ _ _ h => h) (Or.inl ⟨by rfl, ?_⟩) ?_ ?_
  rotate_left; exact zp; rotate_left; exact zq
  refine done_ zk ?_
  try go_wp2_with (first | ((with_reducible refine gate_callee (f := 49) rfl ?_); refine goesL_ (some 16) rfl rfl Try.func49 zk rfl #[.slice A1 l1.length c1] rfl zA ?_; (with_reducible refine (impl_byHeight.calls k _ _ l1 t104 _ ?side1 ?side2 A6.out).mono ?_); (case side1 => exact zC (Kd.C_below HR1.out HB.out)); (case side2 => exact HC1.out); rintro e w11 ⟨rfl, hb⟩; refine ⟨_, rfl, ?_⟩; have n_ := y2 (zb BK101.out hb) (below_step (zB) hb); clear BK101 HB; obtain ⟨BK101, HB⟩ := n_; (try clear hb); (try clear hb2); (try clear hk); (try clear hi)))
  go_ret2
  exact ⟨zE, zB⟩
 rw [if_neg c5] at H
 have c5b0 : (t103 == 0) = false := beq_eq_false_iff_ne.mpr c5
 have c5b1 : (t103 != 0) = true := bne_iff_ne.mpr c5
 simp only [Option.some.injEq, Prod.mk.injEq] at H
 obtain ⟨rfl, rfl⟩ := H
 go_enter Try.func18, Try.ntmps18
 try go_wp2_with (first | ((with_reducible refine gate_dst (N := 2) rfl ?_); refine box_event zr (N := 2) zr (cs := #[.slice A0_0 l0_0.length c0_0]) (t := 26) zg ?_; intro gb101 hg w12 hbox hb; have n_ := y4 (below_step (zB) hb) (hbox) ((zS hg : w.heap.size ≤ gb101)) ((zS hg : w.heap.size ≤ gb101)); clear HB; obtain ⟨HB, BK101, GW101, GE101⟩ := n_; clear hb hbox hg))
 have n_ := y2 (blk_drew BK101.out) (below_drew1 HB.out)
 clear BK101 HB
 obtain ⟨BK101, HB⟩ := n_
 refine start_ (n := 6) (S := fun w' => w'.cell? ⟨gb101, 0, none⟩ = some (.slice A0_0 l0_0.length c0_0)) (ds := []) #[false,false,false,false,false,false] zk rfl rfl ((blk_cell BK101.out 0).trans rfl) (fun hHeld => ?_)
 generalize w12.drew = w13 at BK101 HB hHeld ⊢
 refine pure_ (i := 2) (N := some 9) (v := ?_) (a' := ?_) #[false,false,true,false,false,false] rfl rfl zk (fun _ _ _ h => h) (Or.inl ⟨by rfl, ?_⟩) ?_ ?_
 rotate_left; exact zp; rotate_left; exact zq
 refine take_ (i := 0) (N := some 7) (v := ?_) (a' := ?_) #[true,false,true,false,false,false] rfl rfl zk (fun _ _ _ h => h) (Or.inl ⟨by rfl, ?_⟩) hHeld ?_ ?_
 rotate_left
 ·
  intro w' s0
  go_simp
  with_reducible rfl
 rotate_left
 ·
  simp only [Act.put, List.setIfInBounds_toArray, List.set_cons_zero, List.set_cons_succ, i64_w, i32_w]
  rfl
 refine take_ (i := 1) (N := some 8) (v := ?_) (a' := ?_) #[true,true,true,false,false,false] rfl rfl zk (fun _ _ _ h => h) (Or.inl ⟨by rfl, ?_⟩) hHeld ?_ ?_
 rotate_left
 ·
  intro w' s0
  go_simp
  with_reducible rfl
 rotate_left
 ·
  simp only [Act.put, List.setIfInBounds_toArray, List.set_cons_zero, List.set_cons_succ, i64_w, i32_w]
  rfl
 refine one_ (i := 3) (N := some 10) #[true,true,true,true,false,false] rfl rfl zk (by decide) (fun K hK => ?_)
 refine goes_ Try.func43 zk rfl #[.agg #[.slice A0_0 l0_0.length c0_0], .slice A1 l1.length c1] (by rfl) rfl rfl zA ?_
 with_reducible refine (impl_Garden_areHeights.calls _ _ l0_0 _ _ l1 t102 _ ?side1 ?side2 ?side3 ?side4 A3.out).mono ?_
 (case side1 => exact zC (Kd.C_below HR0_0.out HB.out))
 (case side2 => exact HC0_0.out)
 (case side3 => exact zC (Kd.C_below HR1.out HB.out))
 (case side4 => exact HC1.out)
 rintro e w14 ⟨rfl, hb⟩
 refine ⟨_, rfl, ?_⟩
 have n_ := y2 (zb BK101.out hb) (below_step (zB) hb)
 clear BK101 HB
 obtain ⟨BK101, HB⟩ := n_
 (try clear hb)
 (try clear hb2)
 (try clear hk)
 (try clear hi)
 refine hK.out _ _ ((blk_cell BK101.out 0).trans rfl) (fun hHeld => ?_)
 clear hK K
 refine norm_ (a' := ?_) ?_ ?_
 rotate_left
 ·
  show Act.put _ (some 10) _ = _
  simp only [Act.put, List.setIfInBounds_toArray, List.set_cons_zero, List.set_cons_succ, i64_w, i32_w]
  rfl
 refine one_ (i := 4) (N := some 11) #[true,true,true,true,true,false] rfl rfl zk (by decide) (fun K hK => ?_)
 refine goes_ Try.func26 zk rfl #[.agg #[.slice A0_0 l0_0.length c0_0], .bool t102] (by rfl) rfl rfl zA ?_
 with_reducible refine (impl_gardenCode.calls _ _ l0_0 t102 t103 _ ?side1 ?side2 A4.out).mono ?_
 (case side1 => exact zC (Kd.C_below HR0_0.out HB.out))
 (case side2 => exact HC0_0.out)
 rintro e w15 ⟨rfl, hb⟩
 refine ⟨_, rfl, ?_⟩
 have n_ := y2 (zb BK101.out hb) (below_step (zB) hb)
 clear BK101 HB
 obtain ⟨BK101, HB⟩ := n_
 (try clear hb)
 (try clear hb2)
 (try clear hk)
 (try clear hi)
 refine hK.out _ _ ((blk_cell BK101.out 0).trans rfl) (fun hHeld => ?_)
 clear hK K
 refine norm_ (a' := ?_) ?_ ?_
 rotate_left
 ·
  show Act.put _ (some 11) _ = _
  simp only [Act.put, List.setIfInBounds_toArray, List.set_cons_zero, List.set_cons_succ, i64_w, i32_w]
  rfl
 refine pure_ (i := 5) (N := some 6) (v := ?_) (a' := ?_) #[true,true,true,true,true,true] rfl rfl zk (fun _ _ _ h => h) (Or.inl ⟨by rfl, ?_⟩) ?_ ?_
 rotate_left; exact zp; rotate_left; exact zq
 refine done_ zk ?_
 try go_wp2
 go_ret2
 exact ⟨zE, zB⟩
end Go.Proofs.Ytgmciimgmnnhmaa.P
end
section
namespace Go.Proofs.Ytgmciimgmnnhmaa.P
open Go.RowKit Go.Proofs.YtgmciimgmnnhmaaW.PrintWords Go.Proofs.YtgmciimgmnnhmaaW.PrintLast Go.Proofs.YtgmciimgmnnhmaaW.PrintMore
attribute [local go_sem] max2_int min2_int max_two min_two max_three min_three max_four min_four   -- for this text's walks alone
set_option linter.unusedVariables false
set_option linter.unusedSimpArgs false
def spec_CutByHeight.f (k : Nat) (l0_0 : List Int) (l1 : List Int) : Option (Int × Int) := (spec_l06Heights.f k l0_0 l1).bind fun t102 => (if t102 = 0 then ((spec_l06Highest.f k l1).bind fun t103 => (some (t103, 0))) else (some (0, t102)))
theorem spec_CutByHeight.mono : ∀ a0 a1 k, LeO (spec_CutByHeight.f k a0 a1) (spec_CutByHeight.f (k + 1) a0 a1) := by
  intro a0 a1 k
  unfold spec_CutByHeight.f
  repeat' first | (with_reducible exact spec_l06Heights.mono _ _ _) | (with_reducible exact spec_l06Highest.mono _ _) | (with_reducible exact LeO.refl _) | (with_reducible exact LeO.none _) | (with_reducible refine LeO.ite ?_ ?_) | (with_reducible refine LeO.bind ?_ (fun _ => ?_)) | exact spec_l06Heights.mono _ _ _ | exact spec_l06Highest.mono _ _ | exact LeO.none _ | refine LeO.ite ?_ ?_ | refine LeO.bind ?_ (fun _ => ?_)
set_option maxHeartbeats 8000000 in
set_option maxRecDepth 100000 in
theorem spec_CutByHeight.calls (k : Nat) (A0_0 : Option Addr) (c0_0 : Nat) (l0_0 : List Int) (A1 : Option Addr) (c1 : Nat) (l1 : List Int) (r1 : Int) (r2 : Int) (w : World) (hr0_0 : Kd.C (Kd.int .i64) w A0_0 l0_0.length l0_0) (hc0_0 : l0_0.length ≤ c0_0) (hr1 : Kd.C (Kd.int .i64) w A1 l1.length l1) (hc1 : l1.length ≤ c1) (h : spec_CutByHeight.f k l0_0 l1 = some (r1, r2)) :
    Calls Try.prog 19 #[.agg #[.slice A0_0 l0_0.length c0_0], .slice A1 l1.length c1] w fun e w' => e = .returned (.tuple #[.int .i64 r1, .int .i64 r2]) ∧ Below w.heap.size w w' := by
 have hu26 := Try.underlying26
 have HR0_0 := Aside0.mk hr0_0
 have HC0_0 := Aside0.mk hc0_0
 clear hr0_0 hc0_0
 have HR1 := Aside0.mk hr1
 have HC1 := Aside0.mk hc1
 clear hr1 hc1
 have HB := Aside0.mk (Below.refl w.heap.size w)
 have H : ((spec_l06Heights.f k l0_0 l1).bind fun t102 => (if t102 = 0 then ((spec_l06Highest.f k l1).bind fun t103 => (some (t103, 0))) else (some (0, t102)))) = some (r1, r2) := h
 clear h
 replace H := Option.bind_eq_some_iff.mp H
 obtain ⟨t102, A30, H⟩ := H
 replace H : (if t102 = 0 then ((spec_l06Highest.f k l1).bind fun t103 => (some (t103, 0))) else (some (0, t102))) = some (r1, r2) := H
 have A3 := Aside0.mk A30
 clear A30
 by_cases c4 : t102 = 0
 ·
  rw [if_pos c4] at H
  have c4b0 : (t102 == 0) = true := beq_iff_eq.mpr c4
  have c4b1 : (t102 != 0) = false := bne_eq_false_iff_eq.mpr c4
  clear c4
  replace H := Option.bind_eq_some_iff.mp H
  obtain ⟨t103, A50, H⟩ := H
  replace H : (some (t103, 0)) = some (r1, r2) := H
  have A5 := Aside0.mk A50
  clear A50
  simp only [Option.some.injEq, Prod.mk.injEq] at H
  obtain ⟨rfl, rfl⟩ := H
  go_enter Try.func19, Try.ntmps19
  go_wp2_with (first | ((with_reducible refine gate_dst (N := 2) rfl ?_); refine box_event zr (N := 2) zr (cs := #[.slice A0_0 l0_0.length c0_0]) (t := 26) zg ?_; intro gb101 hg w6 hbox hb; have n_ := y4 (below_step (zB) hb) (hbox) ((zS hg : w.heap.size ≤ gb101)) ((zS hg : w.heap.size ≤ gb101)); clear HB; obtain ⟨HB, BK101, GW101, GE101⟩ := n_; clear hb hbox hg; have hcz7_0 := zc BK101.out; have hfz7_0 := blk_frozen BK101.out 0) | ((with_reducible refine gate_callee (f := 45) rfl ?_); refine goesL_ (some 9) rfl rfl Try.func45 zk rfl #[.agg #[.slice A0_0 l0_0.length c0_0], .slice A1 l1.length c1] rfl zA ?_; (with_reducible refine (spec_l06Heights.calls k _ _ l0_0 _ _ l1 t102 _ ?side1 ?side2 ?side3 ?side4 A3.out).mono ?_); (case side1 => exact zC (Kd.C_below HR0_0.out HB.out)); (case side2 => exact HC0_0.out); (case side3 => exact zC (Kd.C_below HR1.out HB.out)); (case side4 => exact HC1.out); rintro e w8 ⟨rfl, hb⟩; refine ⟨_, rfl, ?_⟩; have n_ := y2 (zb BK101.out hb) (below_step (zB) hb); clear BK101 HB; obtain ⟨BK101, HB⟩ := n_; (try clear hb); (try clear hb2); (try clear hk); (try clear hi)) | ((with_reducible refine gate_callee (f := 50) rfl ?_); refine goesL_ (some 14) rfl rfl Try.func50 zk rfl #[.slice A1 l1.length c1] rfl zA ?_; (with_reducible refine (spec_l06Highest.calls k _ _ l1 t103 _ ?side1 ?side2 A5.out).mono ?_); (case side1 => exact zC (Kd.C_below HR1.out HB.out)); (case side2 => exact HC1.out); rintro e w' ⟨rfl, ⟨nd, rfl⟩⟩; refine ⟨_, rfl, ?_⟩))
  go_ret2
  exact ⟨zE, zB⟩
 rw [if_neg c4] at H
 have c4b0 : (t102 == 0) = false := beq_eq_false_iff_ne.mpr c4
 have c4b1 : (t102 != 0) = true := bne_iff_ne.mpr c4
 simp only [Option.some.injEq, Prod.mk.injEq] at H
 obtain ⟨rfl, rfl⟩ := H
 go_enter Try.func19, Try.ntmps19
 go_wp2_with (first | ((with_reducible refine gate_dst (N := 2) rfl ?_); refine box_event zr (N := 2) zr (cs := #[.slice A0_0 l0_0.length c0_0]) (t := 26) zg ?_; intro gb101 hg w9 hbox hb; have n_ := y4 (below_step (zB) hb) (hbox) ((zS hg : w.heap.size ≤ gb101)) ((zS hg : w.heap.size ≤ gb101)); clear HB; obtain ⟨HB, BK101, GW101, GE101⟩ := n_; clear hb hbox hg; have hcz10_0 := zc BK101.out; have hfz10_0 := blk_frozen BK101.out 0) | ((with_reducible refine gate_callee (f := 45) rfl ?_); refine goesL_ (some 9) rfl rfl Try.func45 zk rfl #[.agg #[.slice A0_0 l0_0.length c0_0], .slice A1 l1.length c1] rfl zA ?_; (with_reducible refine (spec_l06Heights.calls k _ _ l0_0 _ _ l1 t102 _ ?side1 ?side2 ?side3 ?side4 A3.out).mono ?_); (case side1 => exact zC (Kd.C_below HR0_0.out HB.out)); (case side2 => exact HC0_0.out); (case side3 => exact zC (Kd.C_below HR1.out HB.out)); (case side4 => exact HC1.out); rintro e w11 ⟨rfl, hb⟩; refine ⟨_, rfl, ?_⟩; have n_ := y2 (zb BK101.out hb) (below_step (zB) hb); clear BK101 HB; obtain ⟨BK101, HB⟩ := n_; (try clear hb); (try clear hb2); (try clear hk); (try clear hi)))
 go_ret2
 exact ⟨zE, zB⟩
end Go.Proofs.Ytgmciimgmnnhmaa.P
end
section
namespace Go.Proofs.Ytgmciimgmnnhmaa.P
open Go.RowKit Go.Proofs.YtgmciimgmnnhmaaW.PrintWords Go.Proofs.YtgmciimgmnnhmaaW.PrintLast Go.Proofs.YtgmciimgmnnhmaaW.PrintMore
attribute [local go_sem] max2_int min2_int max_two min_two max_three min_three max_four min_four   -- for this text's walks alone
set_option linter.unusedVariables false
set_option linter.unusedSimpArgs false
def impl_Garden_sum.l0 : Nat → Int → List Int → Int → Int → Option (Int)
  | 0, _, _, _, _ => none
  | k + 1, x3, x7, x8, x9 => if x9 < x8 then (if 0 ≤ x9 then (if x9 < (x7.length : Int) then (impl_Garden_sum.l0 k (wrap64 (x3 + (rd x7 x9))) x7 x8 (wrap64 (x9 + 1))) else (none)) else (none)) else (some x3)
def impl_Garden_sum.f (k : Nat) (l0_0 : List Int) : Option (Int) := impl_Garden_sum.l0 k 0 l0_0 (l0_0.length : Int) 0
theorem impl_Garden_sum.mono_l : ∀ k, (∀ y0 y1 y2 y3, LeO (impl_Garden_sum.l0 k y0 y1 y2 y3) (impl_Garden_sum.l0 (k + 1) y0 y1 y2 y3))
  | 0 => fun _ _ _ _ r h => by simp [impl_Garden_sum.l0] at h
  | k + 1 => by
    have ih0 := impl_Garden_sum.mono_l k
    · intro y0 y1 y2 y3
      unfold impl_Garden_sum.l0
      repeat' first | (with_reducible exact ih0 _ _ _ _) | (with_reducible exact LeO.refl _) | (with_reducible exact LeO.none _) | (with_reducible refine LeO.ite ?_ ?_) | (with_reducible refine LeO.bind ?_ (fun _ => ?_)) | exact ih0 _ _ _ _ | exact LeO.none _ | refine LeO.ite ?_ ?_ | refine LeO.bind ?_ (fun _ => ?_)
theorem impl_Garden_sum.mono : ∀ a0 k, LeO (impl_Garden_sum.f k a0) (impl_Garden_sum.f (k + 1) a0) := by
  intro a0 k
  have ih0 := impl_Garden_sum.mono_l k
  unfold impl_Garden_sum.f
  repeat' first | (with_reducible exact ih0 _ _ _ _) | (with_reducible exact LeO.refl _) | (with_reducible exact LeO.none _) | (with_reducible refine LeO.ite ?_ ?_) | (with_reducible refine LeO.bind ?_ (fun _ => ?_)) | exact ih0 _ _ _ _ | exact LeO.none _ | refine LeO.ite ?_ ?_ | refine LeO.bind ?_ (fun _ => ?_)
set_option maxHeartbeats 8000000 in
set_option maxRecDepth 100000 in
theorem impl_Garden_sum.calls (k : Nat) (A0_0 : Option Addr) (c0_0 : Nat) (l0_0 : List Int) (r : Int) (w : World) (hr0_0 : Kd.C (Kd.int .i64) w A0_0 l0_0.length l0_0) (hc0_0 : l0_0.length ≤ c0_0) (h : impl_Garden_sum.f k l0_0 = some r) :
    Calls Try.prog 51 #[.agg #[.slice A0_0 l0_0.length c0_0]] w fun e w' => e = .returned (.int .i64 r) ∧ Below w.heap.size w w' := by
 have hu26 := Try.underlying26
 have HR0_0 := Aside0.mk hr0_0
 have HC0_0 := Aside0.mk hc0_0
 clear hr0_0 hc0_0
 have HB := Aside0.mk (Below.refl w.heap.size w)
 have H : (impl_Garden_sum.l0 k 0 l0_0 (l0_0.length : Int) 0) = some r := h
 clear h
 have H' := Aside0.mk H
 clear H
 go_enter Try.func51, Try.ntmps51
 go_wp2_with (first | ((with_reducible refine gate_dst (N := 1) rfl ?_); refine box_event zr (N := 1) zr (cs := #[.slice A0_0 l0_0.length c0_0]) (t := 26) zg ?_; intro gb101 hg w2 hbox hb; have n_ := y4 (below_step (zB) hb) (hbox) ((zS hg : w.heap.size ≤ gb101)) ((zS hg : w.heap.size ≤ gb101)); clear HB; obtain ⟨HB, BK101, GW101, GE101⟩ := n_; clear hb hbox hg; have hcz3_0 := zc BK101.out; have hfz3_0 := blk_frozen BK101.out 0))
 go_loopg [3, 9] k (fun kq v3 v9 w' => ∃ (x3_1 : Int) (x9_1 : Int), v3 = .int .i64 x3_1 ∧ v9 = .int .i64 x9_1 ∧ Aside0 (impl_Garden_sum.l0 kq x3_1 l0_0 (l0_0.length : Int) x9_1 = some r) ∧ Aside0 (kq ≤ k) ∧ Aside0 (w'.heap[gb101]? = some (.cells #[(.slice A0_0 l0_0.length c0_0)] 26 (0, 0))) ∧ Aside0 (Below w.heap.size w w'))
 case atStart => exact ⟨(0), (0), zF, zF, H', ⟨Nat.le_refl _⟩, ⟨zG BK101.out⟩, ⟨zB⟩⟩
 clear H'
 try clear hcz3_0
 try clear hfz3_0
 obtain ⟨x3_1, x9_1, rfl, rfl, HA, HK1, BK101, HB⟩ := hrel
 cases gk with
 | zero => exact absurd HA.out (by simp [impl_Garden_sum.l0])
 | succ k1 =>
   have H := HA.out
   clear HA
   simp only [impl_Garden_sum.l0] at H
   by_cases c4 : x9_1 < (l0_0.length : Int)
   · rw [if_pos c4] at H
     have c4b0 : decide (x9_1 < (l0_0.length : Int)) = true := decide_eq_true c4
     clear c4
     by_cases c5 : 0 ≤ x9_1
     · rw [if_pos c5] at H
       have c5b0 : decide (0 ≤ x9_1) = true := decide_eq_true c5
       clear c5
       by_cases c6 : x9_1 < (l0_0.length : Int)
       · rw [if_pos c6] at H
         have c6b0 : decide (x9_1 < (l0_0.length : Int)) = true := decide_eq_true c6
         clear c6
         have H' := Aside0.mk H
         clear H
         have p102 : 0 ≤ (x9_1 : Int) := zD
         have q102 : x9_1 < (l0_0.length : Int) := zD
         obtain ⟨ad102, e102, hx102_0⟩ := Kd.at_int HR0_0.out x9_1 p102 q102
         cases e102
         replace hx102_0 := (HB.out.cell (World.block_lt_of_cell? w _ hx102_0)).trans hx102_0
         replace p102 := eq_true p102
         replace q102 := eq_true q102
         go_wp2
         go_roundg k1
         case measure => have := HK1.out; omega
         case rel => exact ⟨(wrap64 (x3_1 + (rd l0_0 x9_1))), (wrap64 (x9_1 + 1)), zF, zF, H', ⟨by have := HK1.out; omega⟩, ⟨zG BK101.out⟩, ⟨zB⟩⟩
       · rw [if_neg c6] at H
         exact absurd H (by simp)
     · rw [if_neg c5] at H
       exact absurd H (by simp)
   · rw [if_neg c4] at H
     have c4b0 : decide (x9_1 < (l0_0.length : Int)) = false := decide_eq_false c4
     clear c4
     obtain rfl := Option.some.inj H
     go_wp2
     go_ret
     exact ⟨zE, zB⟩
end Go.Proofs.Ytgmciimgmnnhmaa.P
end
section
namespace Go.Proofs.Ytgmciimgmnnhmaa.P
open Go.RowKit Go.Proofs.YtgmciimgmnnhmaaW.PrintWords Go.Proofs.YtgmciimgmnnhmaaW.PrintLast Go.Proofs.YtgmciimgmnnhmaaW.PrintMore
attribute [local go_sem] max2_int min2_int max_two min_two max_three min_three max_four min_four   -- for this text's walks alone
set_option linter.unusedVariables false
set_option linter.unusedSimpArgs false
def impl_SumOfRates.f (k : Nat) (l0_0 : List Int) : Option (Int × Int) := (impl_gardenCode.f l0_0 true).bind fun t102 => (if t102 = 0 then ((impl_Garden_sum.f k l0_0).bind fun t103 => (some (t103, 0))) else (some (0, t102)))
theorem impl_SumOfRates.mono : ∀ a0 k, LeO (impl_SumOfRates.f k a0) (impl_SumOfRates.f (k + 1) a0) := by
  intro a0 k
  unfold impl_SumOfRates.f
  repeat' first | (with_reducible exact impl_Garden_sum.mono _ _) | (with_reducible exact LeO.refl _) | (with_reducible exact LeO.none _) | (with_reducible refine LeO.ite ?_ ?_) | (with_reducible refine LeO.bind ?_ (fun _ => ?_)) | exact impl_Garden_sum.mono _ _ | exact LeO.none _ | refine LeO.ite ?_ ?_ | refine LeO.bind ?_ (fun _ => ?_)
set_option maxHeartbeats 8000000 in
set_option maxRecDepth 100000 in
theorem impl_SumOfRates.calls (k : Nat) (A0_0 : Option Addr) (c0_0 : Nat) (l0_0 : List Int) (r1 : Int) (r2 : Int) (w : World) (hr0_0 : Kd.C (Kd.int .i64) w A0_0 l0_0.length l0_0) (hc0_0 : l0_0.length ≤ c0_0) (h : impl_SumOfRates.f k l0_0 = some (r1, r2)) :
    Calls Try.prog 20 #[.agg #[.slice A0_0 l0_0.length c0_0]] w fun e w' => e = .returned (.tuple #[.int .i64 r1, .int .i64 r2]) ∧ Below w.heap.size w w' := by
 have hu26 := Try.underlying26
 have HR0_0 := Aside0.mk hr0_0
 have HC0_0 := Aside0.mk hc0_0
 clear hr0_0 hc0_0
 have HB := Aside0.mk (Below.refl w.heap.size w)
 have H : ((impl_gardenCode.f l0_0 true).bind fun t102 => (if t102 = 0 then ((impl_Garden_sum.f k l0_0).bind fun t103 => (some (t103, 0))) else (some (0, t102)))) = some (r1, r2) := h
 clear h
 replace H := Option.bind_eq_some_iff.mp H
 obtain ⟨t102, A20, H⟩ := H
 replace H : (if t102 = 0 then ((impl_Garden_sum.f k l0_0).bind fun t103 => (some (t103, 0))) else (some (0, t102))) = some (r1, r2) := H
 have A2 := Aside0.mk A20
 clear A20
 by_cases c3 : t102 = 0
 ·
  rw [if_pos c3] at H
  have c3b0 : (t102 == 0) = true := beq_iff_eq.mpr c3
  have c3b1 : (t102 != 0) = false := bne_eq_false_iff_eq.mpr c3
  clear c3
  replace H := Option.bind_eq_some_iff.mp H
  obtain ⟨t103, A40, H⟩ := H
  replace H : (some (t103, 0)) = some (r1, r2) := H
  have A4 := Aside0.mk A40
  clear A40
  simp only [Option.some.injEq, Prod.mk.injEq] at H
  obtain ⟨rfl, rfl⟩ := H
  go_enter Try.func20, Try.ntmps20
  go_wp2_with (first | ((with_reducible refine gate_dst (N := 1) rfl ?_); refine box_event zr (N := 1) zr (cs := #[.slice A0_0 l0_0.length c0_0]) (t := 26) zg ?_; intro gb101 hg w5 hbox hb; have n_ := y4 (below_step (zB) hb) (hbox) ((zS hg : w.heap.size ≤ gb101)) ((zS hg : w.heap.size ≤ gb101)); clear HB; obtain ⟨HB, BK101, GW101, GE101⟩ := n_; clear hb hbox hg; have hcz6_0 := zc BK101.out; have hfz6_0 := blk_frozen BK101.out 0) | ((with_reducible refine gate_callee (f := 26) rfl ?_); refine goesL_ (some 6) rfl rfl Try.func26 zk rfl #[.agg #[.slice A0_0 l0_0.length c0_0], .bool true] rfl zA ?_; (with_reducible refine (impl_gardenCode.calls _ _ l0_0 true t102 _ ?side1 ?side2 A2.out).mono ?_); (case side1 => exact zC (Kd.C_below HR0_0.out HB.out)); (case side2 => exact HC0_0.out); rintro e w7 ⟨rfl, hb⟩; refine ⟨_, rfl, ?_⟩; have n_ := y2 (zb BK101.out hb) (below_step (zB) hb); clear BK101 HB; obtain ⟨BK101, HB⟩ := n_; (try clear hb); (try clear hb2); (try clear hk); (try clear hi); have hcz8_0 := zc BK101.out; have hfz8_0 := blk_frozen BK101.out 0) | ((with_reducible refine gate_callee (f := 51) rfl ?_); refine goesL_ (some 11) rfl rfl Try.func51 zk rfl #[.agg #[.slice A0_0 l0_0.length c0_0]] rfl zA ?_; (with_reducible refine (impl_Garden_sum.calls k _ _ l0_0 t103 _ ?side1 ?side2 A4.out).mono ?_); (case side1 => exact zC (Kd.C_below HR0_0.out HB.out)); (case side2 => exact HC0_0.out); rintro e w9 ⟨rfl, hb⟩; refine ⟨_, rfl, ?_⟩; have n_ := y2 (zb BK101.out hb) (below_step (zB) hb); clear BK101 HB; obtain ⟨BK101, HB⟩ := n_; (try clear hb); (try clear hb2); (try clear hk); (try clear hi)))
  go_ret2
  exact ⟨zE, zB⟩
 rw [if_neg c3] at H
 have c3b0 : (t102 == 0) = false := beq_eq_false_iff_ne.mpr c3
 have c3b1 : (t102 != 0) = true := bne_iff_ne.mpr c3
 simp only [Option.some.injEq, Prod.mk.injEq] at H
 obtain ⟨rfl, rfl⟩ := H
 go_enter Try.func20, Try.ntmps20
 go_wp2_with (first | ((with_reducible refine gate_dst (N := 1) rfl ?_); refine box_event zr (N := 1) zr (cs := #[.slice A0_0 l0_0.length c0_0]) (t := 26) zg ?_; intro gb101 hg w10 hbox hb; have n_ := y4 (below_step (zB) hb) (hbox) ((zS hg : w.heap.size ≤ gb101)) ((zS hg : w.heap.size ≤ gb101)); clear HB; obtain ⟨HB, BK101, GW101, GE101⟩ := n_; clear hb hbox hg; have hcz11_0 := zc BK101.out; have hfz11_0 := blk_frozen BK101.out 0) | ((with_reducible refine gate_callee (f := 26) rfl ?_); refine goesL_ (some 6) rfl rfl Try.func26 zk rfl #[.agg #[.slice A0_0 l0_0.length c0_0], .bool true] rfl zA ?_; (with_reducible refine (impl_gardenCode.calls _ _ l0_0 true t102 _ ?side1 ?side2 A2.out).mono ?_); (case side1 => exact zC (Kd.C_below HR0_0.out HB.out)); (case side2 => exact HC0_0.out); rintro e w12 ⟨rfl, hb⟩; refine ⟨_, rfl, ?_⟩; have n_ := y2 (zb BK101.out hb) (below_step (zB) hb); clear BK101 HB; obtain ⟨BK101, HB⟩ := n_; (try clear hb); (try clear hb2); (try clear hk); (try clear hi)))
 go_ret2
 exact ⟨zE, zB⟩
end Go.Proofs.Ytgmciimgmnnhmaa.P
end
section
namespace Go.Proofs.Ytgmciimgmnnhmaa.P
open Go.RowKit Go.Proofs.YtgmciimgmnnhmaaW.PrintWords Go.Proofs.YtgmciimgmnnhmaaW.PrintLast Go.Proofs.YtgmciimgmnnhmaaW.PrintMore
attribute [local go_sem] max2_int min2_int max_two min_two max_three min_three max_four min_four   -- for this text's walks alone
set_option linter.unusedVariables false
set_option linter.unusedSimpArgs false
def spec_l06Sum.l0 : Nat → Int → Int → Int → List Int → Option (Int × Int)
  | 0, _, _, _, _ => none
  | k + 1, x4, x5, x6, x102000 => if x6 < (x102000.length : Int) then (if 0 ≤ x6 then (spec_l06Sum.l0 k (wrap64 (x4 + (rd x102000 x6))) (mx x5 (rd x102000 x6)) (wrap64 (x6 + 1)) x102000) else (none)) else (some (x4, x5))
def spec_l06Sum.f (k : Nat) (l0_0 : List Int) : Option (Int × Int) := spec_l06Sum.l0 k 0 0 0 l0_0
theorem spec_l06Sum.mono_l : ∀ k, (∀ y0 y1 y2 y3, LeO (spec_l06Sum.l0 k y0 y1 y2 y3) (spec_l06Sum.l0 (k + 1) y0 y1 y2 y3))
  | 0 => fun _ _ _ _ r h => by simp [spec_l06Sum.l0] at h
  | k + 1 => by
    have ih0 := spec_l06Sum.mono_l k
    · intro y0 y1 y2 y3
      unfold spec_l06Sum.l0
      repeat' first | (with_reducible exact ih0 _ _ _ _) | (with_reducible exact LeO.refl _) | (with_reducible exact LeO.none _) | (with_reducible refine LeO.ite ?_ ?_) | (with_reducible refine LeO.bind ?_ (fun _ => ?_)) | exact ih0 _ _ _ _ | exact LeO.none _ | refine LeO.ite ?_ ?_ | refine LeO.bind ?_ (fun _ => ?_)
theorem spec_l06Sum.mono : ∀ a0 k, LeO (spec_l06Sum.f k a0) (spec_l06Sum.f (k + 1) a0) := by
  intro a0 k
  have ih0 := spec_l06Sum.mono_l k
  unfold spec_l06Sum.f
  repeat' first | (with_reducible exact ih0 _ _ _ _) | (with_reducible exact LeO.refl _) | (with_reducible exact LeO.none _) | (with_reducible refine LeO.ite ?_ ?_) | (with_reducible refine LeO.bind ?_ (fun _ => ?_)) | exact ih0 _ _ _ _ | exact LeO.none _ | refine LeO.ite ?_ ?_ | refine LeO.bind ?_ (fun _ => ?_)
set_option maxHeartbeats 8000000 in
set_option maxRecDepth 100000 in
theorem spec_l06Sum.calls (k : Nat) (A0_0 : Option Addr) (c0_0 : Nat) (l0_0 : List Int) (r1 : Int) (r2 : Int) (w : World) (hr0_0 : Kd.C (Kd.int .i64) w A0_0 l0_0.length l0_0) (hc0_0 : l0_0.length ≤ c0_0) (h : spec_l06Sum.f k l0_0 = some (r1, r2)) :
    Calls Try.prog 53 #[.agg #[.slice A0_0 l0_0.length c0_0]] w fun e w' => e = .returned (.tuple #[.int .i64 r1, .int .i64 r2]) ∧ Below w.heap.size w w' := by
 have hu26 := Try.underlying26
 have HR0_0 := Aside0.mk hr0_0
 have HC0_0 := Aside0.mk hc0_0
 clear hr0_0 hc0_0
 have HB := Aside0.mk (Below.refl w.heap.size w)
 have H : (spec_l06Sum.l0 k 0 0 0 l0_0) = some (r1, r2) := h
 clear h
 have H' := Aside0.mk H
 clear H
 go_enter Try.func53, Try.ntmps53
 go_wp2_with (first | ((with_reducible refine gate_dst (N := 1) rfl ?_); refine box_event zr (N := 1) zr (cs := #[.slice A0_0 l0_0.length c0_0]) (t := 26) zg ?_; intro gb101 hg w2 hbox hb; have n_ := y4 (below_step (zB) hb) (hbox) ((zS hg : w.heap.size ≤ gb101)) ((zS hg : w.heap.size ≤ gb101)); clear HB; obtain ⟨HB, BK101, GW101, GE101⟩ := n_; clear hb hbox hg))
 go_loopg [4, 5, 6] k (fun kq v4 v5 v6 w' => ∃ (x4_1 : Int) (x5_1 : Int) (x6_1 : Int), v4 = .int .i64 x4_1 ∧ v5 = .int .i64 x5_1 ∧ v6 = .int .i64 x6_1 ∧ Aside0 (spec_l06Sum.l0 kq x4_1 x5_1 x6_1 l0_0 = some (r1, r2)) ∧ Aside0 (kq ≤ k) ∧ Aside0 (w'.heap[gb101]? = some (.cells #[(.slice A0_0 l0_0.length c0_0)] 26 (0, 0))) ∧ Aside0 (Below w.heap.size w w'))
 case atStart => exact ⟨(0), (0), (0), zF, zF, zF, H', ⟨Nat.le_refl _⟩, ⟨zG BK101.out⟩, ⟨zB⟩⟩
 clear H'
 obtain ⟨x4_1, x5_1, x6_1, rfl, rfl, rfl, HA, HK1, BK101, HB⟩ := hrel
 cases gk with
 | zero => exact absurd HA.out (by simp [spec_l06Sum.l0])
 | succ k1 =>
   have H := HA.out
   clear HA
   simp only [spec_l06Sum.l0] at H
   by_cases c3 : x6_1 < (l0_0.length : Int)
   · rw [if_pos c3] at H
     have c3b0 : decide (x6_1 < (l0_0.length : Int)) = true := decide_eq_true c3
     clear c3
     by_cases c4 : 0 ≤ x6_1
     · rw [if_pos c4] at H
       have c4b0 : decide (0 ≤ x6_1) = true := decide_eq_true c4
       clear c4
       obtain ⟨ji5, hji5⟩ : ∃ j_ : Int, (mx x5_1 (rd l0_0 x6_1)) = j_ := ⟨_, rfl⟩
       replace H : (spec_l06Sum.l0 k1 (wrap64 (x4_1 + (rd l0_0 x6_1))) ji5 (wrap64 (x6_1 + 1)) l0_0) = some (r1, r2) := by first | (rw [hji5] at H; exact H) | (simp only [hji5] at H ⊢; exact H)
       have hji5_ : (if x5_1 < (rd l0_0 x6_1) then (rd l0_0 x6_1) else x5_1) = ji5 := hji5
       have H' := Aside0.mk H
       clear H
       have hcz6_0 := zc BK101.out
       have hfz6_0 := blk_frozen BK101.out 0
       have p102 : 0 ≤ (x6_1 : Int) := zD
       have q102 : x6_1 < (l0_0.length : Int) := zD
       obtain ⟨ad102, e102, hx102_0⟩ := Kd.at_int HR0_0.out x6_1 p102 q102
       cases e102
       replace hx102_0 := (HB.out.cell (World.block_lt_of_cell? w _ hx102_0)).trans hx102_0
       replace p102 := eq_true p102
       replace q102 := eq_true q102
       have p103 : 0 ≤ (x6_1 : Int) := zD
       have q103 : x6_1 < (l0_0.length : Int) := zD
       obtain ⟨ad103, e103, hx103_0⟩ := Kd.at_int HR0_0.out x6_1 p103 q103
       obtain rfl : ad102 = ad103 := (by injection e103)
       replace hx103_0 := (HB.out.cell (World.block_lt_of_cell? w _ hx103_0)).trans hx103_0
       replace p103 := eq_true p103
       replace q103 := eq_true q103
       go_wp2
       go_roundg k1
       case measure => have := HK1.out; omega
       case rel => exact ⟨(wrap64 (x4_1 + (rd l0_0 x6_1))), (ji5), (wrap64 (x6_1 + 1)), zF, (by first | rfl | (simp; done) | (simp only [← hji5] <;> (first | rfl | simp)) | (simp [*]; done)), zF, H', ⟨by have := HK1.out; omega⟩, ⟨zG BK101.out⟩, ⟨zB⟩⟩
     · rw [if_neg c4] at H
       exact absurd H (by simp)
   · rw [if_neg c3] at H
     have c3b0 : decide (x6_1 < (l0_0.length : Int)) = false := decide_eq_false c3
     clear c3
     simp only [Option.some.injEq, Prod.mk.injEq] at H
     obtain ⟨rfl, rfl⟩ := H
     have hcz7_0 := zc BK101.out
     have hfz7_0 := blk_frozen BK101.out 0
     go_wp2
     go_ret2
     exact ⟨zE, zB⟩
end Go.Proofs.Ytgmciimgmnnhmaa.P
end
section
namespace Go.Proofs.Ytgmciimgmnnhmaa.P
open Go.RowKit Go.Proofs.YtgmciimgmnnhmaaW.PrintWords Go.Proofs.YtgmciimgmnnhmaaW.PrintLast Go.Proofs.YtgmciimgmnnhmaaW.PrintMore
attribute [local go_sem] max2_int min2_int max_two min_two max_three min_three max_four min_four   -- for this text's walks alone
set_option linter.unusedVariables false
set_option linter.unusedSimpArgs false
def spec_SumOfRates.f (k : Nat) (l0_0 : List Int) : Option (Int × Int) := (spec_l06Is.f k l0_0).bind fun t102 => (if t102 = true then ((spec_l06Sum.f k l0_0).bind fun bt103 => (some (bt103.1, 0))) else (some (0, 1)))
theorem spec_SumOfRates.mono : ∀ a0 k, LeO (spec_SumOfRates.f k a0) (spec_SumOfRates.f (k + 1) a0) := by
  intro a0 k
  unfold spec_SumOfRates.f
  repeat' first | (with_reducible exact spec_l06Is.mono _ _) | (with_reducible exact spec_l06Sum.mono _ _) | (with_reducible exact LeO.refl _) | (with_reducible exact LeO.none _) | (with_reducible refine LeO.ite ?_ ?_) | (with_reducible refine LeO.bind ?_ (fun _ => ?_)) | exact spec_l06Is.mono _ _ | exact spec_l06Sum.mono _ _ | exact LeO.none _ | refine LeO.ite ?_ ?_ | refine LeO.bind ?_ (fun _ => ?_)
set_option maxHeartbeats 8000000 in
set_option maxRecDepth 100000 in
theorem spec_SumOfRates.calls (k : Nat) (A0_0 : Option Addr) (c0_0 : Nat) (l0_0 : List Int) (r1 : Int) (r2 : Int) (w : World) (hr0_0 : Kd.C (Kd.int .i64) w A0_0 l0_0.length l0_0) (hc0_0 : l0_0.length ≤ c0_0) (h : spec_SumOfRates.f k l0_0 = some (r1, r2)) :
    Calls Try.prog 21 #[.agg #[.slice A0_0 l0_0.length c0_0]] w fun e w' => e = .returned (.tuple #[.int .i64 r1, .int .i64 r2]) ∧ Below w.heap.size w w' := by
 have hu26 := Try.underlying26
 have HR0_0 := Aside0.mk hr0_0
 have HC0_0 := Aside0.mk hc0_0
 clear hr0_0 hc0_0
 have HB := Aside0.mk (Below.refl w.heap.size w)
 have H : ((spec_l06Is.f k l0_0).bind fun t102 => (if t102 = true then ((spec_l06Sum.f k l0_0).bind fun bt103 => (some (bt103.1, 0))) else (some (0, 1)))) = some (r1, r2) := h
 clear h
 replace H := Option.bind_eq_some_iff.mp H
 obtain ⟨t102, A20, H⟩ := H
 replace H : (if t102 = true then ((spec_l06Sum.f k l0_0).bind fun bt103 => (some (bt103.1, 0))) else (some (0, 1))) = some (r1, r2) := H
 have A2 := Aside0.mk A20
 clear A20
 by_cases c3 : t102 = true
 ·
  subst c3
  have H1 : ((spec_l06Sum.f k l0_0).bind fun bt103 => (some (bt103.1, 0))) = some (r1, r2) := by rw [if_pos rfl] at H; exact H
  clear H
  have H := H1
  clear H1
  replace H := Option.bind_eq_some_iff.mp H
  obtain ⟨⟨t103, t104⟩, A40, H⟩ := H
  replace H : (some (t103, 0)) = some (r1, r2) := H
  have A4 := Aside0.mk A40
  clear A40
  simp only [Option.some.injEq, Prod.mk.injEq] at H
  obtain ⟨rfl, rfl⟩ := H
  go_enter Try.func21, Try.ntmps21
  go_wp2_with (first | ((with_reducible refine gate_dst (N := 1) rfl ?_); refine box_event zr (N := 1) zr (cs := #[.slice A0_0 l0_0.length c0_0]) (t := 26) zg ?_; intro gb101 hg w5 hbox hb; have n_ := y4 (below_step (zB) hb) (hbox) ((zS hg : w.heap.size ≤ gb101)) ((zS hg : w.heap.size ≤ gb101)); clear HB; obtain ⟨HB, BK101, GW101, GE101⟩ := n_; clear hb hbox hg; have hcz6_0 := zc BK101.out; have hfz6_0 := blk_frozen BK101.out 0) | ((with_reducible refine gate_callee (f := 52) rfl ?_); refine goesL_ (some 7) rfl rfl Try.func52 zk rfl #[.agg #[.slice A0_0 l0_0.length c0_0]] rfl zA ?_; (with_reducible refine (spec_l06Is.calls k _ _ l0_0 true _ ?side1 ?side2 A2.out).mono ?_); (case side1 => exact zC (Kd.C_below HR0_0.out HB.out)); (case side2 => exact HC0_0.out); rintro e w7 ⟨rfl, hb⟩; refine ⟨_, rfl, ?_⟩; have n_ := y2 (zb BK101.out hb) (below_step (zB) hb); clear BK101 HB; obtain ⟨BK101, HB⟩ := n_; (try clear hb); (try clear hb2); (try clear hk); (try clear hi); have hcz8_0 := zc BK101.out; have hfz8_0 := blk_frozen BK101.out 0) | ((with_reducible refine gate_callee (f := 53) rfl ?_); refine goesL_ (some 11) rfl rfl Try.func53 zk rfl #[.agg #[.slice A0_0 l0_0.length c0_0]] rfl zA ?_; (with_reducible refine (spec_l06Sum.calls k _ _ l0_0 t103 t104 _ ?side1 ?side2 A4.out).mono ?_); (case side1 => exact zC (Kd.C_below HR0_0.out HB.out)); (case side2 => exact HC0_0.out); rintro e w9 ⟨rfl, hb⟩; refine ⟨_, rfl, ?_⟩; have n_ := y2 (zb BK101.out hb) (below_step (zB) hb); clear BK101 HB; obtain ⟨BK101, HB⟩ := n_; (try clear hb); (try clear hb2); (try clear hk); (try clear hi)))
  go_ret2
  exact ⟨zE, zB⟩
 replace c3 := Bool.eq_false_iff.mpr c3
 subst c3
 have H1 : (some (0, 1)) = some (r1, r2) := by rw [if_neg (show ¬ (false = true) by decide)] at H; exact H
 clear H
 have H := H1
 clear H1
 simp only [Option.some.injEq, Prod.mk.injEq] at H
 obtain ⟨rfl, rfl⟩ := H
 go_enter Try.func21, Try.ntmps21
 go_wp2_with (first | ((with_reducible refine gate_dst (N := 1) rfl ?_); refine box_event zr (N := 1) zr (cs := #[.slice A0_0 l0_0.length c0_0]) (t := 26) zg ?_; intro gb101 hg w10 hbox hb; have n_ := y4 (below_step (zB) hb) (hbox) ((zS hg : w.heap.size ≤ gb101)) ((zS hg : w.heap.size ≤ gb101)); clear HB; obtain ⟨HB, BK101, GW101, GE101⟩ := n_; clear hb hbox hg; have hcz11_0 := zc BK101.out; have hfz11_0 := blk_frozen BK101.out 0) | ((with_reducible refine gate_callee (f := 52) rfl ?_); refine goesL_ (some 7) rfl rfl Try.func52 zk rfl #[.agg #[.slice A0_0 l0_0.length c0_0]] rfl zA ?_; (with_reducible refine (spec_l06Is.calls k _ _ l0_0 false _ ?side1 ?side2 A2.out).mono ?_); (case side1 => exact zC (Kd.C_below HR0_0.out HB.out)); (case side2 => exact HC0_0.out); rintro e w12 ⟨rfl, hb⟩; refine ⟨_, rfl, ?_⟩; have n_ := y2 (zb BK101.out hb) (below_step (zB) hb); clear BK101 HB; obtain ⟨BK101, HB⟩ := n_; (try clear hb); (try clear hb2); (try clear hk); (try clear hi)))
 go_ret2
 exact ⟨zE, zB⟩
end Go.Proofs.Ytgmciimgmnnhmaa.P
end
section
namespace Go.Proofs.Ytgmciimgmnnhmaa.P
open Go.RowKit Go.Proofs.YtgmciimgmnnhmaaW.PrintWords Go.Proofs.YtgmciimgmnnhmaaW.PrintLast Go.Proofs.YtgmciimgmnnhmaaW.PrintMore
attribute [local go_sem] max2_int min2_int max_two min_two max_three min_three max_four min_four   -- for this text's walks alone
set_option linter.unusedVariables false
set_option linter.unusedSimpArgs false
def spec_IsGarden.f (k : Nat) (l0_0 : List Int) : Option (Bool) := (spec_l06Is.f k l0_0).bind fun t102 => (some t102)
theorem spec_IsGarden.mono : ∀ a0 k, LeO (spec_IsGarden.f k a0) (spec_IsGarden.f (k + 1) a0) := by
  intro a0 k
  unfold spec_IsGarden.f
  repeat' first | (with_reducible exact spec_l06Is.mono _ _) | (with_reducible exact LeO.refl _) | (with_reducible exact LeO.none _) | (with_reducible refine LeO.ite ?_ ?_) | (with_reducible refine LeO.bind ?_ (fun _ => ?_)) | exact spec_l06Is.mono _ _ | exact LeO.none _ | refine LeO.ite ?_ ?_ | refine LeO.bind ?_ (fun _ => ?_)
set_option maxHeartbeats 8000000 in
set_option maxRecDepth 100000 in
theorem spec_IsGarden.calls (k : Nat) (A0_0 : Option Addr) (c0_0 : Nat) (l0_0 : List Int) (r : Bool) (w : World) (hr0_0 : Kd.C (Kd.int .i64) w A0_0 l0_0.length l0_0) (hc0_0 : l0_0.length ≤ c0_0) (h : spec_IsGarden.f k l0_0 = some r) :
    Calls Try.prog 23 #[.agg #[.slice A0_0 l0_0.length c0_0]] w fun e w' => e = .returned (.bool r) ∧ Below w.heap.size w w' := by
 have hu26 := Try.underlying26
 have HR0_0 := Aside0.mk hr0_0
 have HC0_0 := Aside0.mk hc0_0
 clear hr0_0 hc0_0
 have HB := Aside0.mk (Below.refl w.heap.size w)
 have H : ((spec_l06Is.f k l0_0).bind fun t102 => (some t102)) = some r := h
 clear h
 replace H := Option.bind_eq_some_iff.mp H
 obtain ⟨t102, A20, H⟩ := H
 replace H : (some t102) = some r := H
 have A2 := Aside0.mk A20
 clear A20
 obtain rfl := Option.some.inj H
 go_enter Try.func23, Try.ntmps23
 go_wp2_with (first | ((with_reducible refine gate_dst (N := 1) rfl ?_); refine box_event zr (N := 1) zr (cs := #[.slice A0_0 l0_0.length c0_0]) (t := 26) zg ?_; intro gb101 hg w3 hbox hb; have n_ := y4 (below_step (zB) hb) (hbox) ((zS hg : w.heap.size ≤ gb101)) ((zS hg : w.heap.size ≤ gb101)); clear HB; obtain ⟨HB, BK101, GW101, GE101⟩ := n_; clear hb hbox hg; have hcz4_0 := zc BK101.out; have hfz4_0 := blk_frozen BK101.out 0) | ((with_reducible refine gate_callee (f := 52) rfl ?_); refine goesL_ (some 4) rfl rfl Try.func52 zk rfl #[.agg #[.slice A0_0 l0_0.length c0_0]] rfl zA ?_; (with_reducible refine (spec_l06Is.calls k _ _ l0_0 t102 _ ?side1 ?side2 A2.out).mono ?_); (case side1 => exact zC (Kd.C_below HR0_0.out HB.out)); (case side2 => exact HC0_0.out); rintro e w5 ⟨rfl, hb⟩; refine ⟨_, rfl, ?_⟩; have n_ := y2 (zb BK101.out hb) (below_step (zB) hb); clear BK101 HB; obtain ⟨BK101, HB⟩ := n_; (try clear hb); (try clear hb2); (try clear hk); (try clear hi)))
 go_ret
 exact ⟨zE, zB⟩
end Go.Proofs.Ytgmciimgmnnhmaa.P
end
section
namespace Go.Proofs.Ytgmciimgmnnhmaa.P
open Go.RowKit Go.Proofs.YtgmciimgmnnhmaaW.PrintWords Go.Proofs.YtgmciimgmnnhmaaW.PrintLast Go.Proofs.YtgmciimgmnnhmaaW.PrintMore
attribute [local go_sem] max2_int min2_int max_two min_two max_three min_three max_four min_four   -- for this text's walks alone
set_option linter.unusedVariables false
set_option linter.unusedSimpArgs false
def laws_sum.l0 : Nat → List Int → Int → Int → Option (Int)
  | 0, _, _, _ => none
  | k + 1, x0, x3, x4 => if x4 < (x0.length : Int) then (if 0 ≤ x4 then (laws_sum.l0 k x0 (wrap64 (x3 + (rd x0 x4))) (wrap64 (x4 + 1))) else (none)) else (some x3)
def laws_sum.f (k : Nat) (l0 : List Int) : Option (Int) := laws_sum.l0 k l0 0 0
theorem laws_sum.mono_l : ∀ k, (∀ y0 y1 y2, LeO (laws_sum.l0 k y0 y1 y2) (laws_sum.l0 (k + 1) y0 y1 y2))
  | 0 => fun _ _ _ r h => by simp [laws_sum.l0] at h
  | k + 1 => by
    have ih0 := laws_sum.mono_l k
    · intro y0 y1 y2
      unfold laws_sum.l0
      repeat' first | (with_reducible exact ih0 _ _ _) | (with_reducible exact LeO.refl _) | (with_reducible exact LeO.none _) | (with_reducible refine LeO.ite ?_ ?_) | (with_reducible refine LeO.bind ?_ (fun _ => ?_)) | exact ih0 _ _ _ | exact LeO.none _ | refine LeO.ite ?_ ?_ | refine LeO.bind ?_ (fun _ => ?_)
theorem laws_sum.mono : ∀ a0 k, LeO (laws_sum.f k a0) (laws_sum.f (k + 1) a0) := by
  intro a0 k
  have ih0 := laws_sum.mono_l k
  unfold laws_sum.f
  repeat' first | (with_reducible exact ih0 _ _ _) | (with_reducible exact LeO.refl _) | (with_reducible exact LeO.none _) | (with_reducible refine LeO.ite ?_ ?_) | (with_reducible refine LeO.bind ?_ (fun _ => ?_)) | exact ih0 _ _ _ | exact LeO.none _ | refine LeO.ite ?_ ?_ | refine LeO.bind ?_ (fun _ => ?_)
set_option maxHeartbeats 8000000 in
set_option maxRecDepth 100000 in
theorem laws_sum.calls (k : Nat) (A0 : Option Addr) (c0 : Nat) (l0 : List Int) (r : Int) (w : World) (hr0 : Kd.C (Kd.int .i64) w A0 l0.length l0) (hc0 : l0.length ≤ c0) (h : laws_sum.f k l0 = some r) :
    Calls Try.prog 24 #[.slice A0 l0.length c0] w fun e w' => e = .returned (.int .i64 r) ∧ Drawn0 w w' := by
 have HR0 := Aside0.mk hr0
 have HC0 := Aside0.mk hc0
 clear hr0 hc0
 have H : (laws_sum.l0 k l0 0 0) = some r := h
 clear h
 have H' := Aside0.mk H
 clear H
 go_enter Try.func24, Try.ntmps24
 go_wp2
 go_loopg [3, 4] k (fun kq v3 v4 w' => ∃ (x3_1 : Int) (x4_1 : Int), v3 = .int .i64 x3_1 ∧ v4 = .int .i64 x4_1 ∧ Aside0 (laws_sum.l0 kq l0 x3_1 x4_1 = some r) ∧ Aside0 (kq ≤ k) ∧ Drawn0 w w')
 case atStart => exact ⟨(0), (0), zF, zF, H', ⟨Nat.le_refl _⟩, by repeat (first | exact Drawn0.refl _ | apply Drawn0.step)⟩
 clear H'
 obtain ⟨x3_1, x4_1, rfl, rfl, HA, HK1, ⟨m1, rfl⟩⟩ := hrel
 cases gk with
 | zero => exact absurd HA.out (by simp [laws_sum.l0])
 | succ k1 =>
   have H := HA.out
   clear HA
   simp only [laws_sum.l0] at H
   by_cases c2 : x4_1 < (l0.length : Int)
   · rw [if_pos c2] at H
     have c2b0 : decide (x4_1 < (l0.length : Int)) = true := decide_eq_true c2
     clear c2
     by_cases c3 : 0 ≤ x4_1
     · rw [if_pos c3] at H
       have c3b0 : decide (0 ≤ x4_1) = true := decide_eq_true c3
       clear c3
       have H' := Aside0.mk H
       clear H
       have p101 : 0 ≤ (x4_1 : Int) := zD
       have q101 : x4_1 < (l0.length : Int) := zD
       obtain ⟨ad101, e101, hx101_0⟩ := Kd.at_int HR0.out x4_1 p101 q101
       cases e101
       replace p101 := eq_true p101
       replace q101 := eq_true q101
       go_wp2
       go_roundg k1
       case measure => have := HK1.out; omega
       case rel => exact ⟨(wrap64 (x3_1 + (rd l0 x4_1))), (wrap64 (x4_1 + 1)), zF, zF, H', ⟨by have := HK1.out; omega⟩, by repeat (first | exact Drawn0.refl _ | apply Drawn0.step)⟩
     · rw [if_neg c3] at H
       exact absurd H (by simp)
   · rw [if_neg c2] at H
     have c2b0 : decide (x4_1 < (l0.length : Int)) = false := decide_eq_false c2
     clear c2
     obtain rfl := Option.some.inj H
     go_wp2
     go_ret
     exact ⟨by first | rfl | (simp; done) | (simp [*]; done), by repeat (first | exact Drawn0.refl _ | apply Drawn0.step)⟩
end Go.Proofs.Ytgmciimgmnnhmaa.P
end
section
namespace Go.Proofs.Ytgmciimgmnnhmaa.P
open Go.RowKit Go.Proofs.YtgmciimgmnnhmaaW.PrintWords Go.Proofs.YtgmciimgmnnhmaaW.PrintLast Go.Proofs.YtgmciimgmnnhmaaW.PrintMore
attribute [local go_sem] max2_int min2_int max_two min_two max_three min_three max_four min_four   -- for this text's walks alone
set_option linter.unusedVariables false
set_option linter.unusedSimpArgs false
mutual
def laws_FnGardens.j0 : Nat → List Int → Int → Int → Bool → List Int → Option (Bool)
  | 0, _, _, _, _, _ => none
  | k + 1, x0, x5, x6, x64, x109000 => if x64 = true then (some false) else ((spec_DrawHeightsBehind.f k x0).bind fun bt113 => ((impl_HeightsBehind.f bt113.1 bt113.2.1 bt113.2.2).bind fun bt121 => ((spec_HeightsBehind.f k bt113.1 bt113.2.1 bt113.2.2).bind fun bt125 => (if bt121.2 = bt125.2 then ((laws_likeInts.f k bt121.1 bt125.1).bind fun t129 => (laws_FnGardens.j1 k x0 x5 x6 bt113.2.2 bt121.1 bt121.2 (!t129) x109000)) else (laws_FnGardens.j1 k x0 x5 x6 bt113.2.2 bt121.1 bt121.2 true x109000)))))
def laws_FnGardens.j1 : Nat → List Int → Int → Int → Int → List Int → Int → Bool → List Int → Option (Bool)
  | 0, _, _, _, _, _, _, _, _ => none
  | k + 1, x0, x5, x6, x11, x12, x13, x93, x109000 => if x93 = true then (some false) else ((spec_DrawGrowDays.f k x0).bind fun bt130 => ((impl_GrowDays.f k bt130.1 bt130.2.1 bt130.2.2).bind fun bt138 => ((spec_GrowDays.f k bt130.1 bt130.2.1 bt130.2.2).bind fun bt142 => (if bt138.2 = bt142.2 then ((laws_likeInts.f k bt138.1 bt142.1).bind fun t146 => (laws_FnGardens.j2 k x0 x5 x6 x11 x12 x13 (!t146) x109000)) else (laws_FnGardens.j2 k x0 x5 x6 x11 x12 x13 true x109000)))))
def laws_FnGardens.j2 : Nat → List Int → Int → Int → Int → List Int → Int → Bool → List Int → Option (Bool)
  | 0, _, _, _, _, _, _, _, _ => none
  | k + 1, x0, x5, x6, x11, x12, x13, x122, x109000 => if x122 = true then (some false) else ((spec_DrawCutBySpeed.f k x0).bind fun bt147 => ((impl_CutBySpeed.f bt147.1 bt147.2.1 bt147.2.2).bind fun bt155 => ((spec_CutBySpeed.f k bt147.1 bt147.2.1 bt147.2.2).bind fun bt157 => (if bt155.2 = bt157.2 then (laws_FnGardens.j3 k x5 x6 x11 x12 x13 bt147.2.1 bt147.2.2 bt155.1 bt155.2 (bt155.1 != bt157.1) x109000 bt147.1) else (laws_FnGardens.j3 k x5 x6 x11 x12 x13 bt147.2.1 bt147.2.2 bt155.1 bt155.2 true x109000 bt147.1)))))
def laws_FnGardens.j3 : Nat → Int → Int → Int → List Int → Int → List Int → Int → Int → Int → Bool → List Int → List Int → Option (Bool)
  | 0, _, _, _, _, _, _, _, _, _, _, _, _ => none
  | k + 1, x5, x6, x11, x12, x13, x24, x25, x26, x27, x150, x109000, x155000 => if x150 = true then (some false) else ((impl_CutByHeight.f k x155000 x24).bind fun bt159 => ((spec_CutByHeight.f k x155000 x24).bind fun bt161 => (if bt159.2 = bt161.2 then (laws_FnGardens.j4 k x5 x6 x11 x12 x13 x24 x25 x26 x27 bt159.1 bt159.2 (bt159.1 != bt161.1) x109000) else (laws_FnGardens.j4 k x5 x6 x11 x12 x13 x24 x25 x26 x27 bt159.1 bt159.2 true x109000))))
def laws_FnGardens.j4 : Nat → Int → Int → Int → List Int → Int → List Int → Int → Int → Int → Int → Int → Bool → List Int → Option (Bool)
  | 0, _, _, _, _, _, _, _, _, _, _, _, _, _ => none
  | k + 1, x5, x6, x11, x12, x13, x24, x25, x26, x27, x30, x31, x170, x109000 => if x170 = true then (some false) else ((impl_SumOfRates.f k x109000).bind fun bt163 => ((spec_SumOfRates.f k x109000).bind fun bt165 => (if bt163.2 = bt165.2 then (if bt163.1 = bt165.1 then ((impl_IsGarden.f x109000).bind fun t167 => ((spec_IsGarden.f k x109000).bind fun t168 => (laws_FnGardens.j5 k x5 x6 x11 x12 x13 x24 x25 x26 x27 x30 x31 bt163.1 bt163.2 (t167 != t168)))) else (laws_FnGardens.j5 k x5 x6 x11 x12 x13 x24 x25 x26 x27 x30 x31 bt163.1 bt163.2 true)) else (laws_FnGardens.j5 k x5 x6 x11 x12 x13 x24 x25 x26 x27 x30 x31 bt163.1 bt163.2 true))))
def laws_FnGardens.j5 : Nat → Int → Int → Int → List Int → Int → List Int → Int → Int → Int → Int → Int → Int → Int → Bool → Option (Bool)
  | 0, _, _, _, _, _, _, _, _, _, _, _, _, _, _ => none
  | k + 1, x5, x6, x11, x12, x13, x24, x25, x26, x27, x30, x31, x34, x35, x195 => if x195 = true then (some false) else (if x27 = 0 then (if x31 = 0 then (if 0 ≤ x30 then (if x30 < (x24.length : Int) then (if ((x26 == (-1)) != (decide ((rd x24 x30) < x25))) = true then (some false) else (if x26 ≥ 0 then (if 0 ≤ x26 then (if x26 < (x24.length : Int) then (if (rd x24 x26) < x25 then (some false) else (laws_FnGardens.j6 k x5 x6 x11 x12 x13 x34 x35)) else (none)) else (none)) else (laws_FnGardens.j6 k x5 x6 x11 x12 x13 x34 x35))) else (none)) else (none)) else (some false)) else (laws_FnGardens.j6 k x5 x6 x11 x12 x13 x34 x35))
def laws_FnGardens.j6 : Nat → Int → Int → Int → List Int → Int → Int → Int → Option (Bool)
  | 0, _, _, _, _, _, _, _ => none
  | k + 1, x5, x6, x11, x12, x13, x34, x35 => if x13 = 0 then (if x11 = 0 then ((laws_sum.f k x12).bind fun t171 => (laws_FnGardens.j7 k x5 x6 x34 x35 (t171 != 0))) else (laws_FnGardens.j7 k x5 x6 x34 x35 false)) else (laws_FnGardens.j7 k x5 x6 x34 x35 false)
def laws_FnGardens.j7 : Nat → Int → Int → Int → Int → Bool → Option (Bool)
  | 0, _, _, _, _, _ => none
  | k + 1, x5, x6, x34, x35, x233 => if x233 = true then (some false) else (if x6 = 0 then (if x35 = 0 then (some (decide (x5 ≥ x34))) else (some false)) else (some (x5 == 0)))
end
def laws_FnGardens.f (k : Nat) (l0 : List Int) : Option (Bool) := (laws_big.f l0).bind fun t101 => (if t101 = true then (some true) else ((spec_DrawTowerOf.f k l0).bind fun bt102 => ((impl_TowerOf.f k bt102.1 bt102.2).bind fun bt109 => ((spec_TowerOf.f k bt102.1 bt102.2).bind fun bt111 => (if bt109.2 = bt111.2 then (laws_FnGardens.j0 k l0 bt109.1 bt109.2 (bt109.1 != bt111.1) bt102.1) else (laws_FnGardens.j0 k l0 bt109.1 bt109.2 true bt102.1))))))
theorem laws_FnGardens.mono_l : ∀ k, (∀ y0 y1 y2 y3 y4, LeO (laws_FnGardens.j0 k y0 y1 y2 y3 y4) (laws_FnGardens.j0 (k + 1) y0 y1 y2 y3 y4)) ∧ (∀ y0 y1 y2 y3 y4 y5 y6 y7, LeO (laws_FnGardens.j1 k y0 y1 y2 y3 y4 y5 y6 y7) (laws_FnGardens.j1 (k + 1) y0 y1 y2 y3 y4 y5 y6 y7)) ∧ (∀ y0 y1 y2 y3 y4 y5 y6 y7, LeO (laws_FnGardens.j2 k y0 y1 y2 y3 y4 y5 y6 y7) (laws_FnGardens.j2 (k + 1) y0 y1 y2 y3 y4 y5 y6 y7)) ∧ (∀ y0 y1 y2 y3 y4 y5 y6 y7 y8 y9 y10 y11, LeO (laws_FnGardens.j3 k y0 y1 y2 y3 y4 y5 y6 y7 y8 y9 y10 y11) (laws_FnGardens.j3 (k + 1) y0 y1 y2 y3 y4 y5 y6 y7 y8 y9 y10 y11)) ∧ (∀ y0 y1 y2 y3 y4 y5 y6 y7 y8 y9 y10 y11 y12, LeO (laws_FnGardens.j4 k y0 y1 y2 y3 y4 y5 y6 y7 y8 y9 y10 y11 y12) (laws_FnGardens.j4 (k + 1) y0 y1 y2 y3 y4 y5 y6 y7 y8 y9 y10 y11 y12)) ∧ (∀ y0 y1 y2 y3 y4 y5 y6 y7 y8 y9 y10 y11 y12 y13, LeO (laws_FnGardens.j5 k y0 y1 y2 y3 y4 y5 y6 y7 y8 y9 y10 y11 y12 y13) (laws_FnGardens.j5 (k + 1) y0 y1 y2 y3 y4 y5 y6 y7 y8 y9 y10 y11 y12 y13)) ∧ (∀ y0 y1 y2 y3 y4 y5 y6, LeO (laws_FnGardens.j6 k y0 y1 y2 y3 y4 y5 y6) (laws_FnGardens.j6 (k + 1) y0 y1 y2 y3 y4 y5 y6)) ∧ (∀ y0 y1 y2 y3 y4, LeO (laws_FnGardens.j7 k y0 y1 y2 y3 y4) (laws_FnGardens.j7 (k + 1) y0 y1 y2 y3 y4))
  | 0 => ⟨fun _ _ _ _ _ r h => by simp [laws_FnGardens.j0] at h, fun _ _ _ _ _ _ _ _ r h => by simp [laws_FnGardens.j1] at h, fun _ _ _ _ _ _ _ _ r h => by simp [laws_FnGardens.j2] at h, fun _ _ _ _ _ _ _ _ _ _ _ _ r h => by simp [laws_FnGardens.j3] at h, fun _ _ _ _ _ _ _ _ _ _ _ _ _ r h => by simp [laws_FnGardens.j4] at h, fun _ _ _ _ _ _ _ _ _ _ _ _ _ _ r h => by simp [laws_FnGardens.j5] at h, fun _ _ _ _ _ _ _ r h => by simp [laws_FnGardens.j6] at h, fun _ _ _ _ _ r h => by simp [laws_FnGardens.j7] at h⟩
  | k + 1 => by
    obtain ⟨ih0, ih1, ih2, ih3, ih4, ih5, ih6, ih7⟩ := laws_FnGardens.mono_l k
    refine ⟨?_, ?_, ?_, ?_, ?_, ?_, ?_, ?_⟩ <;> intros <;> (first | unfold laws_FnGardens.j0 | unfold laws_FnGardens.j1 | unfold laws_FnGardens.j2 | unfold laws_FnGardens.j3 | unfold laws_FnGardens.j4 | unfold laws_FnGardens.j5 | unfold laws_FnGardens.j6 | unfold laws_FnGardens.j7) <;> repeat' first | (with_reducible exact ih0 _ _ _ _ _) | (with_reducible exact ih1 _ _ _ _ _ _ _ _) | (with_reducible exact ih2 _ _ _ _ _ _ _ _) | (with_reducible exact ih3 _ _ _ _ _ _ _ _ _ _ _ _) | (with_reducible exact ih4 _ _ _ _ _ _ _ _ _ _ _ _ _) | (with_reducible exact ih5 _ _ _ _ _ _ _ _ _ _ _ _ _ _) | (with_reducible exact ih6 _ _ _ _ _ _ _) | (with_reducible exact ih7 _ _ _ _ _) | (with_reducible exact impl_CutByHeight.mono _ _ _) | (with_reducible exact impl_GrowDays.mono _ _ _ _) | (with_reducible exact impl_SumOfRates.mono _ _) | (with_reducible exact impl_TowerOf.mono _ _ _) | (with_reducible exact laws_likeInts.mono _ _ _) | (with_reducible exact laws_sum.mono _ _) | (with_reducible exact spec_CutByHeight.mono _ _ _) | (with_reducible exact spec_CutBySpeed.mono _ _ _ _) | (with_reducible exact spec_DrawCutBySpeed.mono _ _) | (with_reducible exact spec_DrawGrowDays.mono _ _) | (with_reducible exact spec_DrawHeightsBehind.mono _ _) | (with_reducible exact spec_DrawTowerOf.mono _ _) | (with_reducible exact spec_GrowDays.mono _ _ _ _) | (with_reducible exact spec_HeightsBehind.mono _ _ _ _) | (with_reducible exact spec_IsGarden.mono _ _) | (with_reducible exact spec_SumOfRates.mono _ _) | (with_reducible exact spec_TowerOf.mono _ _ _) | (with_reducible exact LeO.refl _) | (with_reducible exact LeO.none _) | (with_reducible refine LeO.ite ?_ ?_) | (with_reducible refine LeO.bind ?_ (fun _ => ?_)) | exact ih0 _ _ _ _ _ | exact ih1 _ _ _ _ _ _ _ _ | exact ih2 _ _ _ _ _ _ _ _ | exact ih3 _ _ _ _ _ _ _ _ _ _ _ _ | exact ih4 _ _ _ _ _ _ _ _ _ _ _ _ _ | exact ih5 _ _ _ _ _ _ _ _ _ _ _ _ _ _ | exact ih6 _ _ _ _ _ _ _ | exact ih7 _ _ _ _ _ | exact impl_CutByHeight.mono _ _ _ | exact impl_GrowDays.mono _ _ _ _ | exact impl_SumOfRates.mono _ _ | exact impl_TowerOf.mono _ _ _ | exact laws_likeInts.mono _ _ _ | exact laws_sum.mono _ _ | exact spec_CutByHeight.mono _ _ _ | exact spec_CutBySpeed.mono _ _ _ _ | exact spec_DrawCutBySpeed.mono _ _ | exact spec_DrawGrowDays.mono _ _ | exact spec_DrawHeightsBehind.mono _ _ | exact spec_DrawTowerOf.mono _ _ | exact spec_GrowDays.mono _ _ _ _ | exact spec_HeightsBehind.mono _ _ _ _ | exact spec_IsGarden.mono _ _ | exact spec_SumOfRates.mono _ _ | exact spec_TowerOf.mono _ _ _ | exact LeO.none _ | refine LeO.ite ?_ ?_ | refine LeO.bind ?_ (fun _ => ?_)
theorem laws_FnGardens.mono : ∀ a0 k, LeO (laws_FnGardens.f k a0) (laws_FnGardens.f (k + 1) a0) := by
  intro a0 k
  obtain ⟨ih0, ih1, ih2, ih3, ih4, ih5, ih6, ih7⟩ := laws_FnGardens.mono_l k
  unfold laws_FnGardens.f
  repeat' first | (with_reducible exact ih0 _ _ _ _ _) | (with_reducible exact ih1 _ _ _ _ _ _ _ _) | (with_reducible exact ih2 _ _ _ _ _ _ _ _) | (with_reducible exact ih3 _ _ _ _ _ _ _ _ _ _ _ _) | (with_reducible exact ih4 _ _ _ _ _ _ _ _ _ _ _ _ _) | (with_reducible exact ih5 _ _ _ _ _ _ _ _ _ _ _ _ _ _) | (with_reducible exact ih6 _ _ _ _ _ _ _) | (with_reducible exact ih7 _ _ _ _ _) | (with_reducible exact impl_CutByHeight.mono _ _ _) | (with_reducible exact impl_GrowDays.mono _ _ _ _) | (with_reducible exact impl_SumOfRates.mono _ _) | (with_reducible exact impl_TowerOf.mono _ _ _) | (with_reducible exact laws_likeInts.mono _ _ _) | (with_reducible exact laws_sum.mono _ _) | (with_reducible exact spec_CutByHeight.mono _ _ _) | (with_reducible exact spec_CutBySpeed.mono _ _ _ _) | (with_reducible exact spec_DrawCutBySpeed.mono _ _) | (with_reducible exact spec_DrawGrowDays.mono _ _) | (with_reducible exact spec_DrawHeightsBehind.mono _ _) | (with_reducible exact spec_DrawTowerOf.mono _ _) | (with_reducible exact spec_GrowDays.mono _ _ _ _) | (with_reducible exact spec_HeightsBehind.mono _ _ _ _) | (with_reducible exact spec_IsGarden.mono _ _) | (with_reducible exact spec_SumOfRates.mono _ _) | (with_reducible exact spec_TowerOf.mono _ _ _) | (with_reducible exact LeO.refl _) | (with_reducible exact LeO.none _) | (with_reducible refine LeO.ite ?_ ?_) | (with_reducible refine LeO.bind ?_ (fun _ => ?_)) | exact ih0 _ _ _ _ _ | exact ih1 _ _ _ _ _ _ _ _ | exact ih2 _ _ _ _ _ _ _ _ | exact ih3 _ _ _ _ _ _ _ _ _ _ _ _ | exact ih4 _ _ _ _ _ _ _ _ _ _ _ _ _ | exact ih5 _ _ _ _ _ _ _ _ _ _ _ _ _ _ | exact ih6 _ _ _ _ _ _ _ | exact ih7 _ _ _ _ _ | exact impl_CutByHeight.mono _ _ _ | exact impl_GrowDays.mono _ _ _ _ | exact impl_SumOfRates.mono _ _ | exact impl_TowerOf.mono _ _ _ | exact laws_likeInts.mono _ _ _ | exact laws_sum.mono _ _ | exact spec_CutByHeight.mono _ _ _ | exact spec_CutBySpeed.mono _ _ _ _ | exact spec_DrawCutBySpeed.mono _ _ | exact spec_DrawGrowDays.mono _ _ | exact spec_DrawHeightsBehind.mono _ _ | exact spec_DrawTowerOf.mono _ _ | exact spec_GrowDays.mono _ _ _ _ | exact spec_HeightsBehind.mono _ _ _ _ | exact spec_IsGarden.mono _ _ | exact spec_SumOfRates.mono _ _ | exact spec_TowerOf.mono _ _ _ | exact LeO.none _ | refine LeO.ite ?_ ?_ | refine LeO.bind ?_ (fun _ => ?_)
def laws_FnGardens.T29 : Bool × List (List Nat × List Nat) := (true, [([], []), ([], []), ([0, 1], [0, 1]), ([2], [2]), ([3], [3]), ([3], [3]), ([4, 5, 3], [3, 4, 5]), ([3, 6], [3, 6]), ([7, 3], [7]), ([8], [8]), ([9, 8, 8], [8, 9]), ([8], [8]), ([11, 10, 8], [8, 11]), ([10, 12, 8], [8, 10, 12]), ([8, 13], [8, 13])])
def laws_FnGardens.B29 : List Nat := [0, 0, 3, 7, 15, 15, 63, 127, 255, 511, 1023, 511, 4095, 8191, 16383]
theorem laws_FnGardens.tab29 : rtab .any (opsOf Try.f3 29) = laws_FnGardens.T29 := by kernel_rfl
theorem laws_FnGardens.bits29 : waitsOk laws_FnGardens.T29.2 laws_FnGardens.B29 = true := by kernel_rfl
end Go.Proofs.Ytgmciimgmnnhmaa.P
end
