/- Towers are at least the sum of the rates, and heights are those that cuts leave. -/
import Derived.Test.YtgmciimgmnnhmaaCFnGardens4
section
namespace Go.Proofs.Ytgmciimgmnnhmaa.P
open Go.RowKit Go.Proofs.YtgmciimgmnnhmaaW.PrintWords Go.Proofs.YtgmciimgmnnhmaaW.PrintLast Go.Proofs.YtgmciimgmnnhmaaW.PrintMore
attribute [local go_sem] max2_int min2_int max_two min_two max_three min_three max_four min_four   -- for this text's walks alone
set_option linter.unusedVariables false
set_option linter.unusedSimpArgs false
set_option maxHeartbeats 8000000 in
set_option maxRecDepth 100000 in
theorem spec_l01Greatest.calls (k : Nat) (A0 : Option Addr) (c0 : Nat) (l0 : List Int) (a1 : Int) (r : Int) (w : World) (hr0 : Kd.C (Kd.int .i64) w A0 l0.length l0) (hc0 : l0.length ≤ c0) (h : spec_l01Greatest.f k l0 a1 = some r) :
    Calls Try.prog 32 #[.slice A0 l0.length c0, .int .i64 a1] w fun e w' => e = .returned (.int .i64 r) ∧ Below w.heap.size w w' := by
 have HR0 := Aside0.mk hr0
 have HC0 := Aside0.mk hc0
 clear hr0 hc0
 have HB := Aside0.mk (Below.refl w.heap.size w)
 have H : ((spec_l01Waits.f k l0 a1).bind fun t101 => (spec_l01Greatest.l0 k t101 0 0)) = some r := h
 clear h
 replace H := Option.bind_eq_some_iff.mp H
 obtain ⟨t101, A30, H⟩ := H
 replace H : (spec_l01Greatest.l0 k t101 0 0) = some r := H
 have A3 := Aside0.mk A30
 clear A30
 have H' := Aside0.mk H
 clear H
 go_enter Try.func32, Try.ntmps32
 go_wp2_with (first | ((with_reducible refine gate_callee (f := 65) rfl ?_); refine goesL_ (some 10) rfl rfl Try.func65 zk rfl #[.slice A0 l0.length c0, .int .i64 a1] rfl zA ?_; (with_reducible refine (spec_l01Waits.calls k _ _ l0 a1 t101 _ ?side1 ?side2 A3.out).mono ?_); (case side1 => exact zC HR0.out); (case side2 => exact HC0.out); rintro e w4 ⟨v102, rfl, ho0, hb⟩; refine ⟨_, rfl, ?_⟩; have n_ := y2 (Kd.R_lower ho0 (below_size (zB))) (below_step (zB) hb); clear HB; obtain ⟨HO103, HB⟩ := n_; (try clear hb); (try clear hb2); (try clear hk); (try clear hi); (try clear ho0)))
 go_loopg [6, 7] k (fun kq v6 v7 w' => ∃ (x6_1 : Int) (x7_1 : Int), v6 = .int .i64 x6_1 ∧ v7 = .int .i64 x7_1 ∧ Aside0 (spec_l01Greatest.l0 kq t101 x6_1 x7_1 = some r) ∧ Aside0 (kq ≤ k) ∧ Aside0 (Kd.R (Kd.int .i64) 2 w' w.heap.size (fun _ => True) v102 t101) ∧ Aside0 (Below w.heap.size w w'))
 case atStart => exact ⟨(0), (0), zF, zF, H', ⟨Nat.le_refl _⟩, ⟨zR HO103.out⟩, ⟨zB⟩⟩
 clear H'
 obtain ⟨x6_1, x7_1, rfl, rfl, HA, HK1, HO_5, HB⟩ := hrel
 cases gk with
 | zero => exact absurd HA.out (by simp [spec_l01Greatest.l0])
 | succ k1 =>
   have H := HA.out
   clear HA
   simp only [spec_l01Greatest.l0] at H
   by_cases c5 : x7_1 < (t101.length : Int)
   · rw [if_pos c5] at H
     have c5b0 : decide (x7_1 < (t101.length : Int)) = true := decide_eq_true c5
     clear c5
     by_cases c6 : 0 ≤ x7_1
     · rw [if_pos c6] at H
       have c6b0 : decide (0 ≤ x7_1) = true := decide_eq_true c6
       clear c6
       obtain ⟨ji7, hji7⟩ : ∃ j_ : Int, (mx x6_1 (rd t101 x7_1)) = j_ := ⟨_, rfl⟩
       replace H : (spec_l01Greatest.l0 k1 t101 ji7 (wrap64 (x7_1 + 1))) = some r := by first | (rw [hji7] at H; exact H) | (simp only [hji7] at H ⊢; exact H)
       have hji7_ : (if x6_1 < (rd t101 x7_1) then (rd t101 x7_1) else x6_1) = ji7 := hji7
       have H' := Aside0.mk H
       clear H
       obtain ⟨Ao8, co8, eo8⟩ := Kd.R_slice HO_5.out
       subst eo8
       have p104 : 0 ≤ (x7_1 : Int) := zD
       have q104 : x7_1 < (t101.length : Int) := zD
       obtain ⟨ad104, e104, hx104_0⟩ := Kd.at_int (Kd.R_reads' HO_5.out).2.2 x7_1 p104 q104
       cases e104
       replace p104 := eq_true p104
       replace q104 := eq_true q104
       go_wp2
       go_roundg k1
       case measure => have := HK1.out; omega
       case rel => exact ⟨(ji7), (wrap64 (x7_1 + 1)), (by first | rfl | (simp; done) | (simp only [← hji7] <;> (first | rfl | simp)) | (simp [*]; done)), zF, H', ⟨by have := HK1.out; omega⟩, ⟨zR HO_5.out⟩, ⟨zB⟩⟩
     · rw [if_neg c6] at H
       exact absurd H (by simp)
   · rw [if_neg c5] at H
     have c5b0 : decide (x7_1 < (t101.length : Int)) = false := decide_eq_false c5
     clear c5
     obtain rfl := Option.some.inj H
     obtain ⟨Ao9, co9, eo9⟩ := Kd.R_slice HO_5.out
     subst eo9
     go_wp2
     go_ret
     exact ⟨zE, zB⟩
end Go.Proofs.Ytgmciimgmnnhmaa.P
end
section
namespace Go.Proofs.Ytgmciimgmnnhmaa.P
open Go.RowKit Go.Proofs.YtgmciimgmnnhmaaW.PrintWords Go.Proofs.YtgmciimgmnnhmaaW.PrintLast Go.Proofs.YtgmciimgmnnhmaaW.PrintMore
attribute [local go_sem] max2_int min2_int max_two min_two max_three min_three max_four min_four   -- for this text's walks alone
set_option linter.unusedVariables false
set_option linter.unusedSimpArgs false
def spec_TowerOf.l0 : Nat → List Int → Int → Int → List Int → Option (Int × Int)
  | 0, _, _, _, _ => none
  | k + 1, x1, x7, x8, x102000 => if x8 < (x102000.length : Int) then ((spec_l01Greatest.f k x1 x8).bind fun t103 => (if t103 = 0 then (some (0, 4)) else (if 0 ≤ x8 then (spec_TowerOf.l0 k x1 (mx x7 (wrap64 (t103 * (rd x102000 x8)))) (wrap64 (x8 + 1)) x102000) else (none)))) else (some (x7, 0))
def spec_TowerOf.f (k : Nat) (l0_0 : List Int) (l1 : List Int) : Option (Int × Int) := (spec_l06Turns.f k l0_0 l1).bind fun t102 => (if t102 = 0 then (spec_TowerOf.l0 k l1 0 0 l0_0) else (some (0, t102)))
theorem spec_TowerOf.mono_l : ∀ k, (∀ y0 y1 y2 y3, LeO (spec_TowerOf.l0 k y0 y1 y2 y3) (spec_TowerOf.l0 (k + 1) y0 y1 y2 y3))
  | 0 => fun _ _ _ _ r h => by simp [spec_TowerOf.l0] at h
  | k + 1 => by
    have ih0 := spec_TowerOf.mono_l k
    · intro y0 y1 y2 y3
      unfold spec_TowerOf.l0
      repeat' first | (with_reducible exact ih0 _ _ _ _) | (with_reducible exact spec_l01Greatest.mono _ _ _) | (with_reducible exact spec_l06Turns.mono _ _ _) | (with_reducible exact LeO.refl _) | (with_reducible exact LeO.none _) | (with_reducible refine LeO.ite ?_ ?_) | (with_reducible refine LeO.bind ?_ (fun _ => ?_)) | exact ih0 _ _ _ _ | exact spec_l01Greatest.mono _ _ _ | exact spec_l06Turns.mono _ _ _ | exact LeO.none _ | refine LeO.ite ?_ ?_ | refine LeO.bind ?_ (fun _ => ?_)
theorem spec_TowerOf.mono : ∀ a0 a1 k, LeO (spec_TowerOf.f k a0 a1) (spec_TowerOf.f (k + 1) a0 a1) := by
  intro a0 a1 k
  have ih0 := spec_TowerOf.mono_l k
  unfold spec_TowerOf.f
  repeat' first | (with_reducible exact ih0 _ _ _ _) | (with_reducible exact spec_l01Greatest.mono _ _ _) | (with_reducible exact spec_l06Turns.mono _ _ _) | (with_reducible exact LeO.refl _) | (with_reducible exact LeO.none _) | (with_reducible refine LeO.ite ?_ ?_) | (with_reducible refine LeO.bind ?_ (fun _ => ?_)) | exact ih0 _ _ _ _ | exact spec_l01Greatest.mono _ _ _ | exact spec_l06Turns.mono _ _ _ | exact LeO.none _ | refine LeO.ite ?_ ?_ | refine LeO.bind ?_ (fun _ => ?_)
set_option maxHeartbeats 8000000 in
set_option maxRecDepth 100000 in
theorem spec_TowerOf.calls (k : Nat) (A0_0 : Option Addr) (c0_0 : Nat) (l0_0 : List Int) (A1 : Option Addr) (c1 : Nat) (l1 : List Int) (r1 : Int) (r2 : Int) (w : World) (hr0_0 : Kd.C (Kd.int .i64) w A0_0 l0_0.length l0_0) (hc0_0 : l0_0.length ≤ c0_0) (hr1 : Kd.C (Kd.int .i64) w A1 l1.length l1) (hc1 : l1.length ≤ c1) (h : spec_TowerOf.f k l0_0 l1 = some (r1, r2)) :
    Calls Try.prog 7 #[.agg #[.slice A0_0 l0_0.length c0_0], .slice A1 l1.length c1] w fun e w' => e = .returned (.tuple #[.int .i64 r1, .int .i64 r2]) ∧ Below w.heap.size w w' := by
 have hu26 := Try.underlying26
 have HR0_0 := Aside0.mk hr0_0
 have HC0_0 := Aside0.mk hc0_0
 clear hr0_0 hc0_0
 have HR1 := Aside0.mk hr1
 have HC1 := Aside0.mk hc1
 clear hr1 hc1
 have HB := Aside0.mk (Below.refl w.heap.size w)
 have H : ((spec_l06Turns.f k l0_0 l1).bind fun t102 => (if t102 = 0 then (spec_TowerOf.l0 k l1 0 0 l0_0) else (some (0, t102)))) = some (r1, r2) := h
 clear h
 replace H := Option.bind_eq_some_iff.mp H
 obtain ⟨t102, A30, H⟩ := H
 replace H : (if t102 = 0 then (spec_TowerOf.l0 k l1 0 0 l0_0) else (some (0, t102))) = some (r1, r2) := H
 have A3 := Aside0.mk A30
 clear A30
 by_cases c4 : t102 = 0
 ·
  rw [if_pos c4] at H
  have c4b0 : (t102 == 0) = true := beq_iff_eq.mpr c4
  have c4b1 : (t102 != 0) = false := bne_eq_false_iff_eq.mpr c4
  clear c4
  have H' := Aside0.mk H
  clear H
  go_enter Try.func7, Try.ntmps7
  go_wp2_with (first | ((with_reducible refine gate_dst (N := 2) rfl ?_); refine box_event zr (N := 2) zr (cs := #[.slice A0_0 l0_0.length c0_0]) (t := 26) zg ?_; intro gb101 hg w5 hbox hb; have n_ := y4 (below_step (zB) hb) (hbox) ((zS hg : w.heap.size ≤ gb101)) ((zS hg : w.heap.size ≤ gb101)); clear HB; obtain ⟨HB, BK101, GW101, GE101⟩ := n_; clear hb hbox hg; have hcz6_0 := zc BK101.out; have hfz6_0 := blk_frozen BK101.out 0) | ((with_reducible refine gate_callee (f := 31) rfl ?_); refine goesL_ (some 12) rfl rfl Try.func31 zk rfl #[.agg #[.slice A0_0 l0_0.length c0_0], .slice A1 l1.length c1] rfl zA ?_; (with_reducible refine (spec_l06Turns.calls k _ _ l0_0 _ _ l1 t102 _ ?side1 ?side2 ?side3 ?side4 A3.out).mono ?_); (case side1 => exact zC (Kd.C_below HR0_0.out HB.out)); (case side2 => exact HC0_0.out); (case side3 => exact zC (Kd.C_below HR1.out HB.out)); (case side4 => exact HC1.out); rintro e w7 ⟨rfl, hb⟩; refine ⟨_, rfl, ?_⟩; have n_ := y2 (zb BK101.out hb) (below_step (zB) hb); clear BK101 HB; obtain ⟨BK101, HB⟩ := n_; (try clear hb); (try clear hb2); (try clear hk); (try clear hi)))
  go_loopg [7, 8] k (fun kq v7 v8 w' => ∃ (x7_1 : Int) (x8_1 : Int), v7 = .int .i64 x7_1 ∧ v8 = .int .i64 x8_1 ∧ Aside0 (spec_TowerOf.l0 kq l1 x7_1 x8_1 l0_0 = some (r1, r2)) ∧ Aside0 (kq ≤ k) ∧ Aside0 (w'.heap[gb101]? = some (.cells #[(.slice A0_0 l0_0.length c0_0)] 26 (0, 0))) ∧ Aside0 (Below w.heap.size w w'))
  case atStart => exact ⟨(0), (0), zF, zF, H', ⟨Nat.le_refl _⟩, ⟨zG BK101.out⟩, ⟨zB⟩⟩
  clear H'
  try clear c1
  try clear c4
  try clear c4b0
  try clear c4b1
  try clear hcz6_0
  try clear hfz6_0
  obtain ⟨x7_1, x8_1, rfl, rfl, HA, HK1, BK101, HB⟩ := hrel
  cases gk with
  | zero => exact absurd HA.out (by simp [spec_TowerOf.l0])
  | succ k1 =>
    have H := HA.out
    clear HA
    simp only [spec_TowerOf.l0] at H
    by_cases c8 : x8_1 < (l0_0.length : Int)
    · rw [if_pos c8] at H
      have c8b0 : decide (x8_1 < (l0_0.length : Int)) = true := decide_eq_true c8
      clear c8
      replace H := Option.bind_eq_some_iff.mp H
      obtain ⟨t103, A90, H⟩ := H
      replace H : (if t103 = 0 then (some (0, 4)) else (if 0 ≤ x8_1 then (spec_TowerOf.l0 k1 l1 (mx x7_1 (wrap64 (t103 * (rd l0_0 x8_1)))) (wrap64 (x8_1 + 1)) l0_0) else (none))) = some (r1, r2) := H
      have A9 := Aside0.mk A90
      clear A90
      by_cases c10 : t103 = 0
      · rw [if_pos c10] at H
        have c10b0 : (t103 == 0) = true := beq_iff_eq.mpr c10
        have c10b1 : (t103 != 0) = false := bne_eq_false_iff_eq.mpr c10
        clear c10
        simp only [Option.some.injEq, Prod.mk.injEq] at H
        obtain ⟨rfl, rfl⟩ := H
        have hcz11_0 := zc BK101.out
        have hfz11_0 := blk_frozen BK101.out 0
        go_wp2_with (first | ((with_reducible refine gate_callee (f := 32) rfl ?_); refine goesL_ (some 25) rfl rfl Try.func32 zk rfl #[.slice A1 l1.length c1, .int .i64 x8_1] rfl zA ?_; (with_reducible refine (spec_l01Greatest.calls k1 _ _ l1 x8_1 t103 _ ?side1 ?side2 A9.out).mono ?_); (case side1 => exact zC (Kd.C_below HR1.out HB.out)); (case side2 => exact HC1.out); rintro e w12 ⟨rfl, hb⟩; refine ⟨_, rfl, ?_⟩; have n_ := y2 (zb BK101.out hb) (below_step (zB) hb); clear BK101 HB; obtain ⟨BK101, HB⟩ := n_; (try clear hb); (try clear hb2); (try clear hk); (try clear hi)))
        go_ret2
        exact ⟨zE, zB⟩
      · rw [if_neg c10] at H
        have c10b0 : (t103 == 0) = false := beq_eq_false_iff_ne.mpr c10
        have c10b1 : (t103 != 0) = true := bne_iff_ne.mpr c10
        by_cases c13 : 0 ≤ x8_1
        · rw [if_pos c13] at H
          have c13b0 : decide (0 ≤ x8_1) = true := decide_eq_true c13
          clear c13
          obtain ⟨ji14, hji14⟩ : ∃ j_ : Int, (mx x7_1 (wrap64 (t103 * (rd l0_0 x8_1)))) = j_ := ⟨_, rfl⟩
          replace H : (spec_TowerOf.l0 k1 l1 ji14 (wrap64 (x8_1 + 1)) l0_0) = some (r1, r2) := by first | (rw [hji14] at H; exact H) | (simp only [hji14] at H ⊢; exact H)
          (try rw [hji14] at A9)
          have hji14_ : (if x7_1 < (wrap64 (t103 * (rd l0_0 x8_1))) then (wrap64 (t103 * (rd l0_0 x8_1))) else x7_1) = ji14 := hji14
          have H' := Aside0.mk H
          clear H
          have hcz15_0 := zc BK101.out
          have hfz15_0 := blk_frozen BK101.out 0
          go_wp2_with (first | ((with_reducible refine gate_callee (f := 32) rfl ?_); refine goesL_ (some 25) rfl rfl Try.func32 zk rfl #[.slice A1 l1.length c1, .int .i64 x8_1] rfl zA ?_; (with_reducible refine (spec_l01Greatest.calls k1 _ _ l1 x8_1 t103 _ ?side1 ?side2 A9.out).mono ?_); (case side1 => exact zC (Kd.C_below HR1.out HB.out)); (case side2 => exact HC1.out); rintro e w16 ⟨rfl, hb⟩; refine ⟨_, rfl, ?_⟩; have n_ := y2 (zb BK101.out hb) (below_step (zB) hb); clear BK101 HB; obtain ⟨BK101, HB⟩ := n_; (try clear hb); (try clear hb2); (try clear hk); (try clear hi); have hcz17_0 := zc BK101.out; have hfz17_0 := blk_frozen BK101.out 0; have p104 : 0 ≤ (x8_1 : Int) := zD; have q104 : x8_1 < (l0_0.length : Int) := zD; obtain ⟨ad104, e104, hx104_0⟩ := Kd.at_int HR0_0.out x8_1 p104 q104; cases e104; replace hx104_0 := (HB.out.cell (World.block_lt_of_cell? w _ hx104_0)).trans hx104_0; replace p104 := eq_true p104; replace q104 := eq_true q104))
          go_roundg k1
          case measure => have := HK1.out; omega
          case rel => exact ⟨(ji14), (wrap64 (x8_1 + 1)), (by first | rfl | (simp; done) | (simp only [← hji14] <;> (first | rfl | simp)) | (simp [*]; done)), zF, H', ⟨by have := HK1.out; omega⟩, ⟨zG BK101.out⟩, ⟨zB⟩⟩
        · rw [if_neg c13] at H
          exact absurd H (by simp)
    · rw [if_neg c8] at H
      have c8b0 : decide (x8_1 < (l0_0.length : Int)) = false := decide_eq_false c8
      clear c8
      simp only [Option.some.injEq, Prod.mk.injEq] at H
      obtain ⟨rfl, rfl⟩ := H
      have hcz18_0 := zc BK101.out
      have hfz18_0 := blk_frozen BK101.out 0
      go_wp2
      go_ret2
      exact ⟨zE, zB⟩
 rw [if_neg c4] at H
 have c4b0 : (t102 == 0) = false := beq_eq_false_iff_ne.mpr c4
 have c4b1 : (t102 != 0) = true := bne_iff_ne.mpr c4
 simp only [Option.some.injEq, Prod.mk.injEq] at H
 obtain ⟨rfl, rfl⟩ := H
 go_enter Try.func7, Try.ntmps7
 go_wp2_with (first | ((with_reducible refine gate_dst (N := 2) rfl ?_); refine box_event zr (N := 2) zr (cs := #[.slice A0_0 l0_0.length c0_0]) (t := 26) zg ?_; intro gb101 hg w19 hbox hb; have n_ := y4 (below_step (zB) hb) (hbox) ((zS hg : w.heap.size ≤ gb101)) ((zS hg : w.heap.size ≤ gb101)); clear HB; obtain ⟨HB, BK101, GW101, GE101⟩ := n_; clear hb hbox hg; have hcz20_0 := zc BK101.out; have hfz20_0 := blk_frozen BK101.out 0) | ((with_reducible refine gate_callee (f := 31) rfl ?_); refine goesL_ (some 12) rfl rfl Try.func31 zk rfl #[.agg #[.slice A0_0 l0_0.length c0_0], .slice A1 l1.length c1] rfl zA ?_; (with_reducible refine (spec_l06Turns.calls k _ _ l0_0 _ _ l1 t102 _ ?side1 ?side2 ?side3 ?side4 A3.out).mono ?_); (case side1 => exact zC (Kd.C_below HR0_0.out HB.out)); (case side2 => exact HC0_0.out); (case side3 => exact zC (Kd.C_below HR1.out HB.out)); (case side4 => exact HC1.out); rintro e w21 ⟨rfl, hb⟩; refine ⟨_, rfl, ?_⟩; have n_ := y2 (zb BK101.out hb) (below_step (zB) hb); clear BK101 HB; obtain ⟨BK101, HB⟩ := n_; (try clear hb); (try clear hb2); (try clear hk); (try clear hi)))
 go_ret2
 exact ⟨zE, zB⟩
end Go.Proofs.Ytgmciimgmnnhmaa.P
end
section
namespace Go.Proofs.Ytgmciimgmnnhmaa.P
open Go.RowKit Go.Proofs.YtgmciimgmnnhmaaW.PrintWords Go.Proofs.YtgmciimgmnnhmaaW.PrintLast Go.Proofs.YtgmciimgmnnhmaaW.PrintMore
attribute [local go_sem] max2_int min2_int max_two min_two max_three min_three max_four min_four   -- for this text's walks alone
set_option linter.unusedVariables false
set_option linter.unusedSimpArgs false
def spec_l01Near.f (s0_0 : List Int) (s0_1 : Int) (s0_2 : Int) (a1 : Int) : Option (Int × Int × Int) := (spec_l01Next.f s0_0 s0_1 s0_2 14).bind fun bt101 => (if bt101.1 = 0 then ((spec_l01Pick.f s0_0 bt101.2.1 bt101.2.2 (([(-1), wrap64 (a1 + 1), 1099511627776, (-4611686018427387904)] : List Int))).bind fun bt107 => (some (bt107.1, bt107.2.1, bt107.2.2))) else ((spec_l01Next.f s0_0 bt101.2.1 bt101.2.2 (wrap64 (a1 + 1))).bind fun bt110 => (some (bt110.1, bt110.2.1, bt110.2.2))))
set_option maxHeartbeats 8000000 in
set_option maxRecDepth 100000 in
theorem spec_l01Near.calls (g : Nat) (s0_0 : List Int) (s0_1 : Int) (s0_2 : Int) (a1 : Int) (r1 : Int) (r2 : Int) (r3 : Int) (w0 w : World) (hI : IsS68 w0 w g s0_0 s0_1 s0_2) (hB : Below w0.heap.size w0 w) (h : spec_l01Near.f s0_0 s0_1 s0_2 a1 = some (r1, r2, r3)) :
    Calls Try.prog 34 #[.pointer (some ⟨g, 0, none⟩), .int .i64 a1] w fun e w' => e = .returned (.int .i64 r1) ∧ IsS68 w0 w' g s0_0 r2 r3 ∧ Below w0.heap.size w0 w' ∧ KeepBut w w' g none := by
 have HI0 := Aside0.mk hI
 have HK := Aside0.mk (KeepBut.refl w g none)
 have HL := Aside0.mk hB.size
 clear hI
 have HW0 := Aside0.mk hB.size
 have HB := Aside0.mk hB
 clear hB
 have H : ((spec_l01Next.f s0_0 s0_1 s0_2 14).bind fun bt101 => (if bt101.1 = 0 then ((spec_l01Pick.f s0_0 bt101.2.1 bt101.2.2 (([(-1), wrap64 (a1 + 1), 1099511627776, (-4611686018427387904)] : List Int))).bind fun bt107 => (some (bt107.1, bt107.2.1, bt107.2.2))) else ((spec_l01Next.f s0_0 bt101.2.1 bt101.2.2 (wrap64 (a1 + 1))).bind fun bt110 => (some (bt110.1, bt110.2.1, bt110.2.2))))) = some (r1, r2, r3) := h
 clear h
 replace H := Option.bind_eq_some_iff.mp H
 obtain ⟨⟨t101, t102, t103⟩, A30, H⟩ := H
 replace H : (if t101 = 0 then ((spec_l01Pick.f s0_0 t102 t103 (([(-1), wrap64 (a1 + 1), 1099511627776, (-4611686018427387904)] : List Int))).bind fun bt107 => (some (bt107.1, bt107.2.1, bt107.2.2))) else ((spec_l01Next.f s0_0 t102 t103 (wrap64 (a1 + 1))).bind fun bt110 => (some (bt110.1, bt110.2.1, bt110.2.2)))) = some (r1, r2, r3) := H
 have A3 := Aside0.mk A30
 clear A30
 by_cases c4 : t101 = 0
 ·
  rw [if_pos c4] at H
  have c4b0 : (t101 == 0) = true := beq_iff_eq.mpr c4
  have c4b1 : (t101 != 0) = false := bne_eq_false_iff_eq.mpr c4
  clear c4
  obtain ⟨y104, hy104⟩ : ∃ y_ : List Int, y_ = (([(-1), wrap64 (a1 + 1), 1099511627776, (-4611686018427387904)] : List Int)) := ⟨_, rfl⟩
  replace H : ((spec_l01Pick.f s0_0 t102 t103 y104).bind fun bt107 => (some (bt107.1, bt107.2.1, bt107.2.2))) = some (r1, r2, r3) := zH hy104
  have Ny104 := Aside0.mk hy104
  clear hy104
  replace H := Option.bind_eq_some_iff.mp H
  obtain ⟨⟨t107, t108, t109⟩, A50, H⟩ := H
  replace H : (some (t107, t108, t109)) = some (r1, r2, r3) := H
  have A5 := Aside0.mk A50
  clear A50
  simp only [Option.some.injEq, Prod.mk.injEq] at H
  obtain ⟨rfl, rfl, rfl⟩ := H
  go_enter Try.func34, Try.ntmps34
  go_wp2_with (first | ((with_reducible refine gate_callee (f := 60) rfl ?_); refine goesL_ (some 6) rfl rfl Try.func60 zk rfl #[.pointer (some ⟨g, 0, none⟩), .int .i64 14] rfl zA ?_; (with_reducible refine (spec_l01Next.calls g s0_0 s0_1 s0_2 14 t101 t102 t103 w0 _ ?side1 ?side2 A3.out).mono ?_); (case side1 => exact zI); (case side2 => exact zB); rintro e w6 ⟨rfl, hi, hb, hk⟩; refine ⟨_, rfl, ?_⟩; have n_ := y3 (KeepBut.trans (zK) hk (.inl rfl)) (hb) (hi); clear HK HB HI0; obtain ⟨HK, HB, HI0⟩ := n_; (try clear hb); (try clear hb2); (try clear hk); (try clear hi)) | ((with_reducible refine gate_dst (N := 11) rfl ?_); refine Kd.R_lit (Kd.int .i64) _ 2 ?hg (N := 11) ?hd (xs := ([(-1), wrap64 (a1 + 1), 1099511627776, (-4611686018427387904)] : List Int)) (inner := [.int .i64 (-1), .int .i64 (wrap64 (a1 + 1)), .int .i64 1099511627776, .int .i64 (-4611686018427387904)]) (ok := fun _ => True) (okp := fun _ => True) ?hr ?hp (fun _ hk => hk) trivial (Below.refl _ _) (Nat.le_refl _) (by simp) ?_; (case hd => rfl); (case hg => rfl); (case hr => first | (go_simp; done) | (go_simp; rfl)); (case hp => exact (Reps.one (show Kd.M (Kd.int .i64) _ _ _ (-1) [.int .i64 (-1)] from rfl) (Reps.one (show Kd.M (Kd.int .i64) _ _ _ (wrap64 (a1 + 1)) [.int .i64 (wrap64 (a1 + 1))] from rfl) (Reps.one (show Kd.M (Kd.int .i64) _ _ _ 1099511627776 [.int .i64 1099511627776] from rfl) (Reps.one (show Kd.M (Kd.int .i64) _ _ _ (-4611686018427387904) [.int .i64 (-4611686018427387904)] from rfl) (Reps.none _ _)))))); intro v105 w7 ho8 hb hg_ hnew_; clear hg_ hnew_; (first | rw [← Ny104.out] at ho8 | (simp only [Int.reduceToNat] at ho8; rw [← Ny104.out] at ho8)); have n_ := y4 (Kd.R_lower ho8 (keep_size (w := w) (g := g) (row := none) (zK))) (IsS68.below (zI) hb) (KeepBut.trans (zK) (KeepBut.of_below hb g none) (.inl rfl)) (below_step (zB) hb); clear HI0 HK HB; obtain ⟨HO106, HI0, HK, HB⟩ := n_; clear hb ho8; obtain ⟨Ao9, co9, eo9⟩ := Kd.R_slice HO106.out; subst eo9) | ((with_reducible refine gate_callee (f := 35) rfl ?_); refine goesL_ (some 12) rfl rfl Try.func35 zk rfl #[.pointer (some ⟨g, 0, none⟩), .slice Ao9 y104.length co9] rfl zA ?_; (with_reducible refine (spec_l01Pick.calls g s0_0 t102 t103 _ _ y104 t107 t108 t109 w0 _ ?side1 ?side2 ?side3 ?side4 ?side5 A5.out).mono ?_); (case side1 => exact zI); (case side2 => exact zB); (case side3 => exact zC (Kd.R_reads' HO106.out).2.2); (case side4 => exact (Kd.R_reads' HO106.out).2.1); (case side5 => exact far_slice (IsS68.own_ne HI0.out HO106.out (by decide))); rintro e w10 ⟨rfl, hi, hb, hk⟩; refine ⟨_, rfl, ?_⟩; have n_ := y4 (Kd.R_mono (Kd.R_keep (IsS68.apart (show IsS68 w0 _ g s0_0 t102 t103 from zI) (zR HO106.out) (by decide)) hk (fun _ h => h.2)) (fun _ h => h.1)) (KeepBut.trans (zK) hk (.inl rfl)) (hb) (hi); clear HO106 HK HB HI0; obtain ⟨HO106, HK, HB, HI0⟩ := n_; (try clear hb); (try clear hb2); (try clear hk); (try clear hi)))
  go_ret
  exact ⟨zE, zI, zB, zK⟩
 rw [if_neg c4] at H
 have c4b0 : (t101 == 0) = false := beq_eq_false_iff_ne.mpr c4
 have c4b1 : (t101 != 0) = true := bne_iff_ne.mpr c4
 replace H := Option.bind_eq_some_iff.mp H
 obtain ⟨⟨t110, t111, t112⟩, A110, H⟩ := H
 replace H : (some (t110, t111, t112)) = some (r1, r2, r3) := H
 have A11 := Aside0.mk A110
 clear A110
 simp only [Option.some.injEq, Prod.mk.injEq] at H
 obtain ⟨rfl, rfl, rfl⟩ := H
 go_enter Try.func34, Try.ntmps34
 go_wp2_with (first | ((with_reducible refine gate_callee (f := 60) rfl ?_); refine goesL_ (some 6) rfl rfl Try.func60 zk rfl #[.pointer (some ⟨g, 0, none⟩), .int .i64 14] rfl zA ?_; (with_reducible refine (spec_l01Next.calls g s0_0 s0_1 s0_2 14 t101 t102 t103 w0 _ ?side1 ?side2 A3.out).mono ?_); (case side1 => exact zI); (case side2 => exact zB); rintro e w12 ⟨rfl, hi, hb, hk⟩; refine ⟨_, rfl, ?_⟩; have n_ := y3 (KeepBut.trans (zK) hk (.inl rfl)) (hb) (hi); clear HK HB HI0; obtain ⟨HK, HB, HI0⟩ := n_; (try clear hb); (try clear hb2); (try clear hk); (try clear hi)) | ((with_reducible refine gate_callee (f := 60) rfl ?_); refine goesL_ (some 16) rfl rfl Try.func60 zk rfl #[.pointer (some ⟨g, 0, none⟩), .int .i64 (wrap64 (a1 + 1))] rfl zA ?_; (with_reducible refine (spec_l01Next.calls g s0_0 t102 t103 (wrap64 (a1 + 1)) t110 t111 t112 w0 _ ?side1 ?side2 A11.out).mono ?_); (case side1 => exact zI); (case side2 => exact zB); rintro e w13 ⟨rfl, hi, hb, hk⟩; refine ⟨_, rfl, ?_⟩; have n_ := y3 (KeepBut.trans (zK) hk (.inl rfl)) (hb) (hi); clear HK HB HI0; obtain ⟨HK, HB, HI0⟩ := n_; (try clear hb); (try clear hb2); (try clear hk); (try clear hi)))
 go_ret
 exact ⟨zE, zI, zB, zK⟩
end Go.Proofs.Ytgmciimgmnnhmaa.P
end
section
namespace Go.Proofs.Ytgmciimgmnnhmaa.P
open Go.RowKit Go.Proofs.YtgmciimgmnnhmaaW.PrintWords Go.Proofs.YtgmciimgmnnhmaaW.PrintLast Go.Proofs.YtgmciimgmnnhmaaW.PrintMore
attribute [local go_sem] max2_int min2_int max_two min_two max_three min_three max_four min_four   -- for this text's walks alone
set_option linter.unusedVariables false
set_option linter.unusedSimpArgs false
def spec_DrawHeightsBehind.f (k : Nat) (l0 : List Int) : Option (List Int × List Int × Int) := (spec_l01From.f k l0).bind fun bt102 => ((spec_l06Given.f k l0).bind fun bt106 => ((spec_l01Pick.f bt102.1 bt102.2.1 bt102.2.2 (([5, 30, 200] : List Int))).bind fun bt116 => ((spec_l01Near.f bt102.1 bt116.2.1 bt116.2.2 bt116.1).bind fun bt119 => (some (bt106.1, bt106.2, bt119.1)))))
theorem spec_DrawHeightsBehind.mono : ∀ a0 k, LeO (spec_DrawHeightsBehind.f k a0) (spec_DrawHeightsBehind.f (k + 1) a0) := by
  intro a0 k
  unfold spec_DrawHeightsBehind.f
  repeat' first | (with_reducible exact spec_l01From.mono _ _) | (with_reducible exact spec_l06Given.mono _ _) | (with_reducible exact LeO.refl _) | (with_reducible exact LeO.none _) | (with_reducible refine LeO.ite ?_ ?_) | (with_reducible refine LeO.bind ?_ (fun _ => ?_)) | exact spec_l01From.mono _ _ | exact spec_l06Given.mono _ _ | exact LeO.none _ | refine LeO.ite ?_ ?_ | refine LeO.bind ?_ (fun _ => ?_)
def spec_DrawHeightsBehind.T3 : Bool × List (List Nat × List Nat) := (true, [([], []), ([], []), ([], []), ([], []), ([], []), ([3, 4], [3, 4]), ([2, 5, 5], [2, 5]), ([0, 6, 0], [0]), ([1, 7, 0, 1, 7], [1]), ([6, 8, 0, 1, 2, 3, 4, 5, 6, 7, 8], [6])])
def spec_DrawHeightsBehind.B3 : List Nat := [0, 0, 0, 0, 0, 24, 60, 125, 255, 511]
theorem spec_DrawHeightsBehind.tab3 : rtab .any (opsOf Try.f8 3) = spec_DrawHeightsBehind.T3 := by kernel_rfl
theorem spec_DrawHeightsBehind.bits3 : waitsOk spec_DrawHeightsBehind.T3.2 spec_DrawHeightsBehind.B3 = true := by kernel_rfl
set_option maxHeartbeats 8000000 in
set_option maxRecDepth 100000 in
theorem spec_DrawHeightsBehind.calls (k : Nat) (A0 : Option Addr) (c0 : Nat) (l0 : List Int) (r1 : List Int) (r2 : List Int) (r3 : Int) (w : World) (hr0 : Kd.C (Kd.int .u8) w A0 l0.length l0) (hc0 : l0.length ≤ c0) (h : spec_DrawHeightsBehind.f k l0 = some (r1, r2, r3)) :
    Calls Try.prog 8 #[.slice A0 l0.length c0] w fun e w' => ∃ v0_ v1_ : Value, e = .returned (.tuple #[.agg #[v0_], v1_, .int .i64 r3]) ∧ Kd.R (Kd.int .i64) 2 w' w.heap.size (fun k_ => some k_ ≠ (v1_ : Value).ownBlock) v0_ r1 ∧ Kd.R (Kd.int .i64) 2 w' w.heap.size (fun k_ => some k_ ≠ (v0_ : Value).ownBlock) v1_ r2 ∧ Below w.heap.size w w' := by
 have hu26 := Try.underlying26
 have HR0 := Aside0.mk hr0
 have HC0 := Aside0.mk hc0
 clear hr0 hc0
 have HB := Aside0.mk (Below.refl w.heap.size w)
 have H : ((spec_l01From.f k l0).bind fun bt102 => ((spec_l06Given.f k l0).bind fun bt106 => ((spec_l01Pick.f bt102.1 bt102.2.1 bt102.2.2 (([5, 30, 200] : List Int))).bind fun bt116 => ((spec_l01Near.f bt102.1 bt116.2.1 bt116.2.2 bt116.1).bind fun bt119 => (some (bt106.1, bt106.2, bt119.1)))))) = some (r1, r2, r3) := h
 clear h
 replace H := Option.bind_eq_some_iff.mp H
 obtain ⟨⟨t102, t103, t104⟩, A20, H⟩ := H
 replace H : ((spec_l06Given.f k l0).bind fun bt106 => ((spec_l01Pick.f t102 t103 t104 (([5, 30, 200] : List Int))).bind fun bt116 => ((spec_l01Near.f t102 bt116.2.1 bt116.2.2 bt116.1).bind fun bt119 => (some (bt106.1, bt106.2, bt119.1))))) = some (r1, r2, r3) := H
 have A2 := Aside0.mk A20
 clear A20
 replace H := Option.bind_eq_some_iff.mp H
 obtain ⟨⟨t106, t109⟩, A30, H⟩ := H
 replace H : ((spec_l01Pick.f t102 t103 t104 (([5, 30, 200] : List Int))).bind fun bt116 => ((spec_l01Near.f t102 bt116.2.1 bt116.2.2 bt116.1).bind fun bt119 => (some (t106, t109, bt119.1)))) = some (r1, r2, r3) := H
 have A3 := Aside0.mk A30
 clear A30
 obtain ⟨y113, hy113⟩ : ∃ y_ : List Int, y_ = (([5, 30, 200] : List Int)) := ⟨_, rfl⟩
 replace H : ((spec_l01Pick.f t102 t103 t104 y113).bind fun bt116 => ((spec_l01Near.f t102 bt116.2.1 bt116.2.2 bt116.1).bind fun bt119 => (some (t106, t109, bt119.1)))) = some (r1, r2, r3) := zH hy113
 have Ny113 := Aside0.mk hy113
 clear hy113
 replace H := Option.bind_eq_some_iff.mp H
 obtain ⟨⟨t116, t117, t118⟩, A40, H⟩ := H
 replace H : ((spec_l01Near.f t102 t117 t118 t116).bind fun bt119 => (some (t106, t109, bt119.1))) = some (r1, r2, r3) := H
 have A4 := Aside0.mk A40
 clear A40
 replace H := Option.bind_eq_some_iff.mp H
 obtain ⟨⟨t119, t120, t121⟩, A50, H⟩ := H
 replace H : (some (t106, t109, t119)) = some (r1, r2, r3) := H
 have A5 := Aside0.mk A50
 clear A50
 simp only [Option.some.injEq, Prod.mk.injEq] at H
 obtain ⟨rfl, rfl, rfl⟩ := H
 go_enter Try.func8, Try.ntmps8
 try go_wp2_with (first | ((with_reducible refine gate_dst (N := 2) rfl ?_); refine box_event zr (N := 2) zr (cs := #[.slice none 0 0]) (t := 26) zg ?_; intro gb101 hg w6 hbox hb; have n_ := y4 (below_step (zB) hb) (hbox) ((zS hg : w.heap.size ≤ gb101)) ((zS hg : w.heap.size ≤ gb101)); clear HB; obtain ⟨HB, BK101, GW101, GE101⟩ := n_; clear hb hbox hg) | ((with_reducible refine gate_callee (f := 33) rfl ?_); refine goesL_ (some 9) rfl rfl Try.func33 zk rfl #[.slice A0 l0.length c0] rfl zA ?_; (with_reducible refine (spec_l01From.calls k _ _ l0 t102 t103 t104 w _ ?side1 ?side2 ?side3 A2.out).mono ?_); (case side1 => exact zB); (case side2 => exact HR0.out); (case side3 => exact HC0.out); rintro e w7 ⟨g105, rfl, hi, hb, hb2⟩; refine ⟨_, rfl, ?_⟩; have n_ := y5 (zb BK101.out hb2) (hb) (hi) (IsS68.ne_blk hi (zb BK101.out hb2) (by decide)) (Ne.symm (IsS68.ne_blk hi (zb BK101.out hb2) (by decide))); clear BK101 HB; obtain ⟨BK101, HB, HI105, NB105_101, NB101_105⟩ := n_; (try clear hb); (try clear hb2); (try clear hk); (try clear hi)) | ((with_reducible refine gate_callee (f := 25) rfl ?_); refine goesL_ (some 12) rfl rfl Try.func25 zk rfl #[.slice A0 l0.length c0] rfl zA ?_; (with_reducible refine (spec_l06Given.calls k _ _ l0 t106 t109 _ ?side1 ?side2 A3.out).mono ?_); (case side1 => exact zC (Kd.C_below HR0.out HB.out)); (case side2 => exact HC0.out); rintro e w8 ⟨v107, v110, rfl, ho0, ho1, hb⟩; refine ⟨_, rfl, ?_⟩; have n_ := y5 (Kd.R_lower ho0 (below_size (zB))) (Kd.R_lower ho1 (below_size (zB))) (zb BK101.out hb) (IsS68.below (zX HI105.out) hb) (below_step (zB) hb); clear BK101 HI105 HB; obtain ⟨HO108, HO111, BK101, HI105, HB⟩ := n_; (try clear hb); (try clear hb2); (try clear hk); (try clear hi); (try clear ho0); (try clear ho1)) | ((with_reducible refine gate_dst (N := 6) rfl ?_); refine box_event zr (N := 6) zr (cs := #[.slice none 0 0]) (t := 26) zg ?_; intro gb112 hg w9 hbox hb; have n_ := y12 (Kd.R_below (zR HO108.out) hb) (Kd.R_below (zR HO111.out) hb) (zb BK101.out hb) (IsS68.below (zX HI105.out) hb) (below_step (zB) hb) (hbox) ((zS hg : w.heap.size ≤ gb112)) ((zS hg : w.heap.size ≤ gb112)) ((zL hg BK101.out : gb101 ≠ gb112)) ((zM hg BK101.out : gb112 ≠ gb101)) ((by rw [hg]; exact Nat.ne_of_lt (IsS68.lt (show IsS68 w _ g105 t102 t103 t104 from zX HI105.out)) : g105 ≠ gb112)) ((by rw [hg]; exact Nat.ne_of_gt (IsS68.lt (show IsS68 w _ g105 t102 t103 t104 from zX HI105.out)) : gb112 ≠ g105)); clear HO108 HO111 BK101 HI105 HB; obtain ⟨HO108, HO111, BK101, HI105, HB, BK112, GW112, GE112, NB101_112, NB112_101, NB105_112, NB112_105⟩ := n_; clear hb hbox hg; obtain ⟨Ao10, co10, eo10⟩ := Kd.R_slice HO108.out; subst eo10; have hnb11 := NB112_101.out; have hnc11 := NB101_112.out; have hnb12 := NB112_105.out; have hnc12 := NB105_112.out; have hcz13_0 := zc BK112.out; have hfz13_0 := blk_frozen BK112.out 0))
 have n0_ : Aside0 (Kd.R (Kd.int .i64) 2 (w9.setCell ⟨gb112, 0, none⟩ (.slice Ao10 t106.length co10)) w.heap.size (fun k_ => some k_ ≠ (v110 : Value).ownBlock) (.slice Ao10 t106.length co10) t106) := ⟨by refine zR ?_; exact Kd.R_mono (Kd.R_far (p := ⟨gb112, 0, none⟩) (Kd.R_types HO108.out BK112.out (by decide)) (fun _ hk => hk.2) (.slice Ao10 t106.length co10)) (fun _ hk => hk.1)⟩
 have n1_ : Aside0 (Kd.R (Kd.int .i64) 2 (w9.setCell ⟨gb112, 0, none⟩ (.slice Ao10 t106.length co10)) w.heap.size (fun k_ => some k_ ≠ (.slice Ao10 t106.length co10 : Value).ownBlock) v110 t109) := ⟨by refine zR ?_; exact Kd.R_mono (Kd.R_far (p := ⟨gb112, 0, none⟩) (Kd.R_types HO111.out BK112.out (by decide)) (fun _ hk => hk.2) (.slice Ao10 t106.length co10)) (fun _ hk => hk.1)⟩
 have n2_ : Aside0 ((w9.setCell ⟨gb112, 0, none⟩ (.slice Ao10 t106.length co10)).heap[gb101]? = some (.cells #[.slice none 0 0] 26 (0, 0))) := ⟨by refine zG ?_; refine blk_far ?_ NB101_112.out _; refine zG ?_; exact BK101.out⟩
 have n3_ : Aside0 ((w9.setCell ⟨gb112, 0, none⟩ (.slice Ao10 t106.length co10)).heap[gb112]? = some (.cells #[.slice Ao10 t106.length co10] 26 (0, 0))) := ⟨by refine zG ?_; refine blk_put (cs := #[.slice none 0 0]) ?_ 0 _ rfl; refine zG ?_; exact BK112.out⟩
 have n4_ : Aside0 (IsS68 w (w9.setCell ⟨gb112, 0, none⟩ (.slice Ao10 t106.length co10)) g105 t102 t103 t104) := ⟨zX HI105.out⟩
 have n5_ : Aside0 (Below w.heap.size w (w9.setCell ⟨gb112, 0, none⟩ (.slice Ao10 t106.length co10))) := ⟨zB⟩
 (try clear HO108)
 (try clear HO111)
 (try clear BK101)
 (try clear BK112)
 (try clear HI105)
 (try clear HB)
 generalize (w9.setCell ⟨gb112, 0, none⟩ (.slice Ao10 t106.length co10)) = w14 at n0_ n1_ n2_ n3_ n4_ n5_ ⊢
 have HO108 := n0_
 have HO111 := n1_
 have BK101 := n2_
 have BK112 := n3_
 have HI105 := n4_
 have HB := n5_
 clear n0_ n1_ n2_ n3_ n4_ n5_
 have n_ := y6 (Kd.R_drew HO108.out) (Kd.R_drew HO111.out) (blk_drew BK101.out) (blk_drew BK112.out) (IsS68.drew HI105.out) (below_drew1 HB.out)
 clear HO108 HO111 BK101 BK112 HI105 HB
 obtain ⟨HO108, HO111, BK101, BK112, HI105, HB⟩ := n_
 refine start_ (n := 10) (S := fun w' => w'.cell? ⟨gb112, 0, none⟩ = some (.slice Ao10 t106.length co10)) (ds := []) #[false,false,false,false,false,false,false,false,false,false] zk rfl rfl ((blk_cell BK112.out 0).trans rfl) (fun hHeld => ?_); refine with_tabW spec_DrawHeightsBehind.tab3 spec_DrawHeightsBehind.bits3 (fun HT_ HW_ => ?_)
 generalize w14.drew = w15 at HO108 HO111 BK101 BK112 HI105 HB hHeld ⊢
 refine pure_ (i := 1) (N := some 16) (v := ?_) (a' := ?_) #[false,true,false,false,false,false,false,false,false,false] rfl rfl (any_of HT_.out zk) (fun _ _ _ h => h) (Or.inl ⟨by rfl, ?_⟩) ?_ ?_
 rotate_left; exact zp; rotate_left; exact zq
 refine pure_ (i := 2) (N := some 17) (v := ?_) (a' := ?_) #[false,true,true,false,false,false,false,false,false,false] rfl rfl (any_of HT_.out zk) (fun _ _ _ h => h) (Or.inl ⟨by rfl, ?_⟩) ?_ ?_
 rotate_left; exact zp; rotate_left; exact zq
 refine pure_ (i := 3) (N := some 18) (v := ?_) (a' := ?_) #[false,true,true,true,false,false,false,false,false,false] rfl rfl (any_of HT_.out zk) (fun _ _ _ h => h) (Or.inl ⟨by rfl, ?_⟩) ?_ ?_
 rotate_left; exact zp; rotate_left; exact zq
 refine take_ (i := 0) (N := some 15) (v := ?_) (a' := ?_) #[true,true,true,true,false,false,false,false,false,false] rfl rfl (take_ofW HT_.out HW_.out zk) (fun _ _ _ h => h) (Or.inl ⟨by rfl, ?_⟩) hHeld ?_ ?_
 rotate_left
 ·
  intro w' s0
  go_simp
  with_reducible rfl
 rotate_left
 ·
  simp only [Act.put, List.setIfInBounds_toArray, List.set_cons_zero, List.set_cons_succ, i64_w, i32_w]
  rfl
 refine one_ (i := 4) (N := some 19) #[true,true,true,true,true,false,false,false,false,false] rfl rfl (one_of HT_.out zk) (by decide) (fun K hK => ?_)
 refine Kd.R_lit_step (Kd.int .i64) _ 2 ?hg (N := 19) ?hd (xs := ([5, 30, 200] : List Int)) (inner := [.int .i64 5, .int .i64 30, .int .i64 200]) (ok := fun _ => True) (okp := fun _ => True) ?hr ?hp (fun _ hk => hk) trivial (Below.refl _ _) (Nat.le_refl _) (by simp) ?_; (case hd => rfl); (case hg => rfl); (case hr => first | (go_simp; done) | (go_simp; rfl)); (case hp => exact (Reps.one (show Kd.M (Kd.int .i64) _ _ _ 5 [.int .i64 5] from rfl) (Reps.one (show Kd.M (Kd.int .i64) _ _ _ 30 [.int .i64 30] from rfl) (Reps.one (show Kd.M (Kd.int .i64) _ _ _ 200 [.int .i64 200] from rfl) (Reps.none _ _)))))
 intro v114 w16 ho17 hb hg_ hnew_
 clear hg_ hnew_
 (first | rw [← Ny113.out] at ho17 | (simp only [Int.reduceToNat] at ho17; rw [← Ny113.out] at ho17))
 have n_ := y7 (Kd.R_elder' (zR HO108.out) (Kd.R_base ho17) hb) (Kd.R_elder' (zR HO111.out) (Kd.R_base ho17) hb) (Kd.R_lower (Kd.R_new' (Kd.R_new' ho17 (Kd.R_lt (zR HO108.out))) (Kd.R_lt (zR HO111.out))) (below_size (zB))) (zb BK101.out hb) (IsS68.below (zX HI105.out) hb) (zb BK112.out hb) (below_step (zB) hb)
 clear HO108 HO111 BK101 HI105 BK112 HB
 obtain ⟨HO108, HO111, HO115, BK101, HI105, BK112, HB⟩ := n_
 clear hb ho17
 obtain ⟨Ao18, co18, eo18⟩ := Kd.R_slice HO115.out
 (first | subst eo18 | (injection eo18 with f1_ f2_ f3_; have f4_ := f1_.symm; have f5_ := f3_.symm; clear f1_ f2_ f3_; subst f4_; subst f5_))
 refine hK.out _ _ ((blk_cell BK112.out 0).trans rfl) (fun hHeld => ?_)
 clear hK K
 refine norm_ (a' := ?_) ?_ ?_
 rotate_left
 ·
  show Act.put _ (some 19) _ = _
  simp only [Act.put, List.setIfInBounds_toArray, List.set_cons_zero, List.set_cons_succ, i64_w, i32_w]
  rfl
 refine one_ (i := 5) (N := some 20) #[true,true,true,true,true,true,false,false,false,false] rfl rfl (one_of HT_.out zk) (by decide) (fun K hK => ?_)
 refine goes_ Try.func35 zk rfl #[.pointer (some ⟨g105, 0, none⟩), .slice Ao18 y113.length co18] (by rfl) rfl rfl zA ?_
 with_reducible refine (spec_l01Pick.calls g105 t102 t103 t104 _ _ y113 t116 t117 t118 w _ ?side1 ?side2 ?side3 ?side4 ?side5 A4.out).mono ?_
 (case side1 => exact zX HI105.out)
 (case side2 => exact zB)
 (case side3 => exact zC (Kd.R_reads' HO115.out).2.2)
 (case side4 => exact (Kd.R_reads' HO115.out).2.1)
 (case side5 => exact far_slice (IsS68.own_ne HI105.out HO115.out (by decide)))
 rintro e w19 ⟨rfl, hi, hb, hk⟩
 refine ⟨_, rfl, ?_⟩
 have n_ := y7 (KeepBut.blk hk (g' := gb101) (o := .cells #[.slice none 0 0] 26 (0, 0)) (zG BK101.out) NB101_105.out (by simp)) (Kd.R_mono (Kd.R_keep (IsS68.apart (show IsS68 w _ g105 t102 t103 t104 from zX HI105.out) (zR HO108.out) (by decide)) hk (fun _ h => h.2)) (fun _ h => h.1)) (Kd.R_mono (Kd.R_keep (IsS68.apart (show IsS68 w _ g105 t102 t103 t104 from zX HI105.out) (zR HO111.out) (by decide)) hk (fun _ h => h.2)) (fun _ h => h.1)) (KeepBut.blk hk (g' := gb112) (o := .cells #[.slice Ao10 t106.length co10] 26 (0, 0)) (zG BK112.out) NB112_105.out (by simp)) (Kd.R_mono (Kd.R_keep (IsS68.apart (show IsS68 w _ g105 t102 t103 t104 from zX HI105.out) (zR HO115.out) (by decide)) hk (fun _ h => h.2)) (fun _ h => h.1)) (hb) (hi)
 clear BK101 HO108 HO111 BK112 HO115 HB HI105
 obtain ⟨BK101, HO108, HO111, BK112, HO115, HB, HI105⟩ := n_
 (try clear hb)
 (try clear hb2)
 (try clear hk)
 (try clear hi)
 refine hK.out _ _ ((blk_cell BK112.out 0).trans rfl) (fun hHeld => ?_)
 clear hK K
 refine norm_ (a' := ?_) ?_ ?_
 rotate_left
 ·
  show Act.put _ (some 20) _ = _
  simp only [Act.put, List.setIfInBounds_toArray, List.set_cons_zero, List.set_cons_succ, i64_w, i32_w]
  rfl
 refine one_ (i := 6) (N := some 21) #[true,true,true,true,true,true,true,false,false,false] rfl rfl (one_of HT_.out zk) (by decide) (fun K hK => ?_)
 refine goes_ Try.func34 zk rfl #[.pointer (some ⟨g105, 0, none⟩), .int .i64 t116] (by rfl) rfl rfl zA ?_
 with_reducible refine (spec_l01Near.calls g105 t102 t117 t118 t116 t119 t120 t121 w _ ?side1 ?side2 A5.out).mono ?_
 (case side1 => exact zX HI105.out)
 (case side2 => exact zB)
 rintro e w20 ⟨rfl, hi, hb, hk⟩
 refine ⟨_, rfl, ?_⟩
 have n_ := y7 (KeepBut.blk hk (g' := gb101) (o := .cells #[.slice none 0 0] 26 (0, 0)) (zG BK101.out) NB101_105.out (by simp)) (Kd.R_mono (Kd.R_keep (IsS68.apart (show IsS68 w _ g105 t102 t117 t118 from zX HI105.out) (zR HO108.out) (by decide)) hk (fun _ h => h.2)) (fun _ h => h.1)) (Kd.R_mono (Kd.R_keep (IsS68.apart (show IsS68 w _ g105 t102 t117 t118 from zX HI105.out) (zR HO111.out) (by decide)) hk (fun _ h => h.2)) (fun _ h => h.1)) (KeepBut.blk hk (g' := gb112) (o := .cells #[.slice Ao10 t106.length co10] 26 (0, 0)) (zG BK112.out) NB112_105.out (by simp)) (Kd.R_mono (Kd.R_keep (IsS68.apart (show IsS68 w _ g105 t102 t117 t118 from zX HI105.out) (zR HO115.out) (by decide)) hk (fun _ h => h.2)) (fun _ h => h.1)) (hb) (hi)
 clear BK101 HO108 HO111 BK112 HO115 HB HI105
 obtain ⟨BK101, HO108, HO111, BK112, HO115, HB, HI105⟩ := n_
 (try clear hb)
 (try clear hb2)
 (try clear hk)
 (try clear hi)
 refine hK.out _ _ ((blk_cell BK112.out 0).trans rfl) (fun hHeld => ?_)
 clear hK K
 refine norm_ (a' := ?_) ?_ ?_
 rotate_left
 ·
  show Act.put _ (some 21) _ = _
  simp only [Act.put, List.setIfInBounds_toArray, List.set_cons_zero, List.set_cons_succ, i64_w, i32_w]
  rfl
 refine one_ (i := 7) (N := none) #[true,true,true,true,true,true,true,true,false,false] rfl rfl (one_of HT_.out zk) (by decide) (fun K hK => ?_)
 have hs21 : w20.cell? ⟨gb101, 0, none⟩ = some (.slice none 0 0) := (blk_cell BK101.out 0).trans rfl
 have hfs21 := blk_frozen BK101.out 0
 have hns21_1 := NB112_101.out
 have hms21_1 := NB101_112.out
 refine skip_ (w1 := ?_) (by rfl) rfl ?_ ?_
 rotate_left
 ·
  go_simp
  rfl
 refine hK.out _ _ (((cell_far (p := ⟨gb101, _, none⟩) NB112_101.out _).trans (hHeld))) (fun hHeld => ?_)
 clear hK K
 refine pure_ (i := 8) (N := some 3) (v := ?_) (a' := ?_) #[true,true,true,true,true,true,true,true,true,false] rfl rfl (any_of HT_.out zk) (fun _ _ _ h => h) (Or.inl ⟨by rfl, ?_⟩) ?_ ?_
 rotate_left; exact zp; rotate_left; exact zq
 refine pure_ (i := 9) (N := some 4) (v := ?_) (a' := ?_) #[true,true,true,true,true,true,true,true,true,true] rfl rfl (any_of HT_.out zk) (fun _ _ _ h => h) (Or.inl ⟨by rfl, ?_⟩) ?_ ?_
 rotate_left; exact zp; rotate_left; exact zq
 refine done_ (done_of HT_.out zk) ?_
 try go_wp2
 refine bodyPost_ret (results_ctt rfl _ _ gb101 26 #[.slice Ao10 t106.length co10] (0, 0) _ rfl (by refine zG ?_; refine blk_put (cs := #[.slice none 0 0]) ?_ 0 _ rfl; refine zG ?_; exact BK101.out) Try.underlying26 rfl zk) rfl ?_
 exact ⟨_, _, zE, by refine zR ?_; exact Kd.R_mono (Kd.R_far (p := ⟨gb101, 0, none⟩) (Kd.R_types HO108.out BK101.out (by decide)) (fun _ hk => hk.2) (.slice Ao10 t106.length co10)) (fun _ hk => hk.1.1), by refine zR ?_; exact Kd.R_mono (Kd.R_far (p := ⟨gb101, 0, none⟩) (Kd.R_types HO111.out BK101.out (by decide)) (fun _ hk => hk.2) (.slice Ao10 t106.length co10)) (fun _ hk => hk.1.1), zB⟩
end Go.Proofs.Ytgmciimgmnnhmaa.P
end
section
namespace Go.Proofs.Ytgmciimgmnnhmaa.P
open Go.RowKit Go.Proofs.YtgmciimgmnnhmaaW.PrintWords Go.Proofs.YtgmciimgmnnhmaaW.PrintLast Go.Proofs.YtgmciimgmnnhmaaW.PrintMore
attribute [local go_sem] max2_int min2_int max_two min_two max_three min_three max_four min_four   -- for this text's walks alone
set_option linter.unusedVariables false
set_option linter.unusedSimpArgs false
mutual
def spec_HeightsBehind.j0 : Nat → List Int → Int → Int → Bool → List Int → Option (List Int × Int)
  | 0, _, _, _, _, _ => none
  | k + 1, x1, x2, x8, x21, x102000 => if x21 = true then (spec_HeightsBehind.j1 k x1 x2 2 x102000) else (spec_HeightsBehind.j1 k x1 x2 x8 x102000)
def spec_HeightsBehind.j1 : Nat → List Int → Int → Int → List Int → Option (List Int × Int)
  | 0, _, _, _, _ => none
  | k + 1, x1, x2, x8, x102000 => if x8 = 0 then (if 0 ≤ (x102000.length : Int) then (if ((x102000.length : Int) : Int).toNat ≤ 35184372088832 then (spec_HeightsBehind.l0 k x1 x2 (List.replicate ((x102000.length : Int) : Int).toNat 0) 0 x102000) else (none)) else (none)) else (some (([] : List Int), x8))
def spec_HeightsBehind.l0 : Nat → List Int → Int → List Int → Int → List Int → Option (List Int × Int)
  | 0, _, _, _, _, _ => none
  | k + 1, x1, x2, x9, x10, x102000 => if x10 < x2 then ((spec_l06Grow.f k x102000 x9 1).bind fun t107 => (if (x1.length : Int) = 0 then (none) else (if 0 ≤ (Int.tmod x10 (x1.length : Int)) then (if (Int.tmod x10 (x1.length : Int)) < (x1.length : Int) then (if (rd x1 (Int.tmod x10 (x1.length : Int))) ≥ 0 then (if 0 ≤ (rd x1 (Int.tmod x10 (x1.length : Int))) then (if (rd x1 (Int.tmod x10 (x1.length : Int))) < (t107.length : Int) then (spec_HeightsBehind.l0 k x1 x2 (t107.set ((rd x1 (Int.tmod x10 (x1.length : Int))) : Int).toNat 0) (wrap64 (x10 + 1)) x102000) else (none)) else (none)) else (spec_HeightsBehind.l0 k x1 x2 t107 (wrap64 (x10 + 1)) x102000)) else (none)) else (none)))) else (some (x9, 0))
end
def spec_HeightsBehind.f (k : Nat) (l0_0 : List Int) (l1 : List Int) (a2 : Int) : Option (List Int × Int) := (spec_l06Turns.f k l0_0 l1).bind fun t102 => (if t102 = 0 then ((spec_l01In.f a2 0 200).bind fun t103 => (spec_HeightsBehind.j0 k l1 a2 t102 (!t103) l0_0)) else (spec_HeightsBehind.j0 k l1 a2 t102 false l0_0))
theorem spec_HeightsBehind.mono_l : ∀ k, (∀ y0 y1 y2 y3 y4, LeO (spec_HeightsBehind.j0 k y0 y1 y2 y3 y4) (spec_HeightsBehind.j0 (k + 1) y0 y1 y2 y3 y4)) ∧ (∀ y0 y1 y2 y3, LeO (spec_HeightsBehind.j1 k y0 y1 y2 y3) (spec_HeightsBehind.j1 (k + 1) y0 y1 y2 y3)) ∧ (∀ y0 y1 y2 y3 y4, LeO (spec_HeightsBehind.l0 k y0 y1 y2 y3 y4) (spec_HeightsBehind.l0 (k + 1) y0 y1 y2 y3 y4))
  | 0 => ⟨fun _ _ _ _ _ r h => by simp [spec_HeightsBehind.j0] at h, fun _ _ _ _ r h => by simp [spec_HeightsBehind.j1] at h, fun _ _ _ _ _ r h => by simp [spec_HeightsBehind.l0] at h⟩
  | k + 1 => by
    obtain ⟨ih0, ih1, ih2⟩ := spec_HeightsBehind.mono_l k
    refine ⟨?_, ?_, ?_⟩ <;> intros <;> (first | unfold spec_HeightsBehind.j0 | unfold spec_HeightsBehind.j1 | unfold spec_HeightsBehind.l0) <;> repeat' first | (with_reducible exact ih0 _ _ _ _ _) | (with_reducible exact ih1 _ _ _ _) | (with_reducible exact ih2 _ _ _ _ _) | (with_reducible exact spec_l06Grow.mono _ _ _ _) | (with_reducible exact spec_l06Turns.mono _ _ _) | (with_reducible exact LeO.refl _) | (with_reducible exact LeO.none _) | (with_reducible refine LeO.ite ?_ ?_) | (with_reducible refine LeO.bind ?_ (fun _ => ?_)) | exact ih0 _ _ _ _ _ | exact ih1 _ _ _ _ | exact ih2 _ _ _ _ _ | exact spec_l06Grow.mono _ _ _ _ | exact spec_l06Turns.mono _ _ _ | exact LeO.none _ | refine LeO.ite ?_ ?_ | refine LeO.bind ?_ (fun _ => ?_)
theorem spec_HeightsBehind.mono : ∀ a0 a1 a2 k, LeO (spec_HeightsBehind.f k a0 a1 a2) (spec_HeightsBehind.f (k + 1) a0 a1 a2) := by
  intro a0 a1 a2 k
  obtain ⟨ih0, ih1, ih2⟩ := spec_HeightsBehind.mono_l k
  unfold spec_HeightsBehind.f
  repeat' first | (with_reducible exact ih0 _ _ _ _ _) | (with_reducible exact ih1 _ _ _ _) | (with_reducible exact ih2 _ _ _ _ _) | (with_reducible exact spec_l06Grow.mono _ _ _ _) | (with_reducible exact spec_l06Turns.mono _ _ _) | (with_reducible exact LeO.refl _) | (with_reducible exact LeO.none _) | (with_reducible refine LeO.ite ?_ ?_) | (with_reducible refine LeO.bind ?_ (fun _ => ?_)) | exact ih0 _ _ _ _ _ | exact ih1 _ _ _ _ | exact ih2 _ _ _ _ _ | exact spec_l06Grow.mono _ _ _ _ | exact spec_l06Turns.mono _ _ _ | exact LeO.none _ | refine LeO.ite ?_ ?_ | refine LeO.bind ?_ (fun _ => ?_)
set_option maxHeartbeats 8000000 in
set_option maxRecDepth 100000 in
theorem spec_HeightsBehind.calls (k : Nat) (A0_0 : Option Addr) (c0_0 : Nat) (l0_0 : List Int) (A1 : Option Addr) (c1 : Nat) (l1 : List Int) (a2 : Int) (r1 : List Int) (r2 : Int) (w : World) (hr0_0 : Kd.C (Kd.int .i64) w A0_0 l0_0.length l0_0) (hc0_0 : l0_0.length ≤ c0_0) (hr1 : Kd.C (Kd.int .i64) w A1 l1.length l1) (hc1 : l1.length ≤ c1) (h : spec_HeightsBehind.f k l0_0 l1 a2 = some (r1, r2)) :
    Calls Try.prog 10 #[.agg #[.slice A0_0 l0_0.length c0_0], .slice A1 l1.length c1, .int .i64 a2] w fun e w' => ∃ v0_ : Value, e = .returned (.tuple #[v0_, .int .i64 r2]) ∧ Kd.R (Kd.int .i64) 2 w' w.heap.size (fun _ => True) v0_ r1 ∧ Below w.heap.size w w' := by
 have hu26 := Try.underlying26
 have HR0_0 := Aside0.mk hr0_0
 have HC0_0 := Aside0.mk hc0_0
 clear hr0_0 hc0_0
 have HR1 := Aside0.mk hr1
 have HC1 := Aside0.mk hc1
 clear hr1 hc1
 have HB := Aside0.mk (Below.refl w.heap.size w)
 have H : ((spec_l06Turns.f k l0_0 l1).bind fun t102 => (if t102 = 0 then ((spec_l01In.f a2 0 200).bind fun t103 => (spec_HeightsBehind.j0 k l1 a2 t102 (!t103) l0_0)) else (spec_HeightsBehind.j0 k l1 a2 t102 false l0_0))) = some (r1, r2) := h
 clear h
 replace H := Option.bind_eq_some_iff.mp H
 obtain ⟨t102, A40, H⟩ := H
 replace H : (if t102 = 0 then ((spec_l01In.f a2 0 200).bind fun t103 => (spec_HeightsBehind.j0 k l1 a2 t102 (!t103) l0_0)) else (spec_HeightsBehind.j0 k l1 a2 t102 false l0_0)) = some (r1, r2) := H
 have A4 := Aside0.mk A40
 clear A40
 have HC5 := Aside0.mk H
 clear H
 go_enter Try.func10, Try.ntmps10
 go_upto_region 2 with (first | ((with_reducible refine gate_dst (N := 3) rfl ?_); refine box_event zr (N := 3) zr (cs := #[.slice A0_0 l0_0.length c0_0]) (t := 26) zg ?_; intro gb101 hg w6 hbox hb; have n_ := y4 (below_step (zB) hb) (hbox) ((zS hg : w.heap.size ≤ gb101)) ((zS hg : w.heap.size ≤ gb101)); clear HB; obtain ⟨HB, BK101, GW101, GE101⟩ := n_; clear hb hbox hg; have hcz7_0 := zc BK101.out; have hfz7_0 := blk_frozen BK101.out 0) | ((with_reducible refine gate_callee (f := 31) rfl ?_); refine goesL_ (some 14) rfl rfl Try.func31 zk rfl #[.agg #[.slice A0_0 l0_0.length c0_0], .slice A1 l1.length c1] rfl zA ?_; (with_reducible refine (spec_l06Turns.calls k _ _ l0_0 _ _ l1 t102 _ ?side1 ?side2 ?side3 ?side4 A4.out).mono ?_); (case side1 => exact zC (Kd.C_below HR0_0.out HB.out)); (case side2 => exact HC0_0.out); (case side3 => exact zC (Kd.C_below HR1.out HB.out)); (case side4 => exact HC1.out); rintro e w8 ⟨rfl, hb⟩; refine ⟨_, rfl, ?_⟩; have n_ := y2 (zb BK101.out hb) (below_step (zB) hb); clear BK101 HB; obtain ⟨BK101, HB⟩ := n_; (try clear hb); (try clear hb2); (try clear hk); (try clear hi)))
 (try simp only [Act.put, List.setIfInBounds_toArray, List.set_cons_zero, List.set_cons_succ])
 go_cut [21] (fun v21 wc => ∃ (kq : Nat) (x21_4 : Bool), v21 = .bool x21_4 ∧ Aside0 (spec_HeightsBehind.j0 kq l1 a2 t102 x21_4 l0_0 = some (r1, r2)) ∧ Aside0 (kq ≤ k) ∧ Aside0 (wc.heap[gb101]? = some (.cells #[(.slice A0_0 l0_0.length c0_0)] 26 (0, 0))) ∧ Aside0 (Below w.heap.size w wc))
 case first =>
  have H := HC5.out
  clear HC5
  by_cases c9 : t102 = 0
  ·
   rw [if_pos c9] at H
   have c9b0 : (t102 == 0) = true := beq_iff_eq.mpr c9
   have c9b1 : (t102 != 0) = false := bne_eq_false_iff_eq.mpr c9
   clear c9
   (first | rw [c9b0] | (simp only [i64_w, i32_w]; rw [c9b0]) | skip)
   replace H := Option.bind_eq_some_iff.mp H
   obtain ⟨t103, A100, H⟩ := H
   replace H : (spec_HeightsBehind.j0 k l1 a2 t102 (!t103) l0_0) = some (r1, r2) := H
   have A10 := Aside0.mk A100
   clear A100
   have H' := Aside0.mk H
   clear H
   go_wp2_with (first | (go_at_call 40; (with_reducible refine (spec_l01In.calls a2 0 200 t103 _ A10.out).mono ?_); rintro e w' ⟨rfl, ⟨nd, rfl⟩⟩))
   go_meet
   case rel => exact ⟨_, (!t103), zF, H', ⟨by first | omega | exact Nat.le_refl _⟩, ⟨zG BK101.out⟩, ⟨zB⟩⟩
  rw [if_neg c9] at H
  have c9b0 : (t102 == 0) = false := beq_eq_false_iff_ne.mpr c9
  have c9b1 : (t102 != 0) = true := bne_iff_ne.mpr c9
  (first | rw [c9b0] | (simp only [i64_w, i32_w]; rw [c9b0]) | skip)
  have H' := Aside0.mk H
  clear H
  go_wp2
  go_meet
  case rel => exact ⟨_, (false), zF, H', ⟨by first | omega | exact Nat.le_refl _⟩, ⟨zG BK101.out⟩, ⟨zB⟩⟩
 clear HC5
 try clear c1
 try clear hcz7_0
 try clear hfz7_0
 obtain ⟨kq, x21_4, rfl, HA, HJ4, BK101, HB⟩ := hcut
 cases kq with
 | zero => exact absurd HA.out (by simp [spec_HeightsBehind.j0])
 | succ kj4 =>
   have H := HA.out
   clear HA
   simp only [spec_HeightsBehind.j0] at H
   have HC11 := Aside0.mk H
   clear H
   go_upto_if 21 with (fail)
   go_cut [8] (fun v8 wc => ∃ (kq : Nat) (x8_10 : Int), v8 = .int .i64 x8_10 ∧ Aside0 (spec_HeightsBehind.j1 kq l1 a2 x8_10 l0_0 = some (r1, r2)) ∧ Aside0 (kq ≤ kj4) ∧ Aside0 (wc.heap[gb101]? = some (.cells #[(.slice A0_0 l0_0.length c0_0)] 26 (0, 0))) ∧ Aside0 (Below w.heap.size w wc))
   case first =>
     have H := HC11.out
     clear HC11
     by_cases c12 : x21_4 = true
     · subst c12
       have H1 : (spec_HeightsBehind.j1 kj4 l1 a2 2 l0_0) = some (r1, r2) := by rw [if_pos rfl] at H; exact H
       clear H
       have H := H1
       clear H1
       have H' := Aside0.mk H
       clear H
       go_wp2
       go_meet
       case rel => exact ⟨_, (2), zF, H', ⟨by have := HJ4.out; first | omega | exact Nat.le_refl _⟩, ⟨zG BK101.out⟩, ⟨zB⟩⟩
     · replace c12 := Bool.eq_false_iff.mpr c12
       subst c12
       have H1 : (spec_HeightsBehind.j1 kj4 l1 a2 t102 l0_0) = some (r1, r2) := by rw [if_neg (show ¬ (false = true) by decide)] at H; exact H
       clear H
       have H := H1
       clear H1
       have H' := Aside0.mk H
       clear H
       go_wp2
       go_meet
       case rel => exact ⟨_, (t102), zF, H', ⟨by have := HJ4.out; first | omega | exact Nat.le_refl _⟩, ⟨zG BK101.out⟩, ⟨zB⟩⟩
   case rest =>
     clear HC11
     try clear c1
     try clear hcz7_0
     try clear hfz7_0
     obtain ⟨kq, x8_10, rfl, HA, HJ10, BK101, HB⟩ := hcut
     cases kq with
     | zero => exact absurd HA.out (by simp [spec_HeightsBehind.j1])
     | succ kj10 =>
       have H := HA.out
       clear HA
       simp only [spec_HeightsBehind.j1] at H
       by_cases c13 : x8_10 = 0
       · rw [if_pos c13] at H
         have c13b0 : (x8_10 == 0) = true := beq_iff_eq.mpr c13
         have c13b1 : (x8_10 != 0) = false := bne_eq_false_iff_eq.mpr c13
         clear c13
         by_cases c14 : 0 ≤ (l0_0.length : Int)
         · rw [if_pos c14] at H
           have c14b0 := eq_true c14
           have c14b1 : decide (0 ≤ (l0_0.length : Int)) = true := decide_eq_true c14
           clear c14
           by_cases c15 : ((l0_0.length : Int) : Int).toNat ≤ 35184372088832
           · rw [if_pos c15] at H
             have c15b0 := eq_true c15
             have c15b1 : decide (((l0_0.length : Int) : Int).toNat ≤ 35184372088832) = true := decide_eq_true c15
             clear c15
             obtain ⟨y104, hy104⟩ : ∃ y_ : List Int, y_ = (List.replicate ((l0_0.length : Int) : Int).toNat 0) := ⟨_, rfl⟩
             replace H : (spec_HeightsBehind.l0 kj10 l1 a2 y104 0 l0_0) = some (r1, r2) := zH hy104
             have Ny104 := Aside0.mk hy104
             clear hy104
             have H' := Aside0.mk H
             clear H
             have hcz16_0 := zc BK101.out
             have hfz16_0 := blk_frozen BK101.out 0
             go_wp2_with (first | ((with_reducible refine gate_dst (N := 28) rfl ?_); refine Kd.R_make (Kd.int .i64) _ 2 rfl (N := 28) rfl 24 _ _ rfl (l0_0.length : Int) rfl rfl Try.underlying24 (.int .i64 0) 8 info2 rfl (by decide) (by omega) 0 (ok := fun _ => True) (okp := fun _ => True) rfl (fun _ hk => hk) trivial (zD) (Nat.le_trans (Nat.mul_le_mul_right _ (zD : (l0_0.length : Int).toNat ≤ 35184372088832)) (by omega)) (Below.refl _ _) (Nat.le_refl _) ?_; intro v105 w17 ho18 hb hg_ hnew_; clear hg_ hnew_; (first | rw [← Ny104.out] at ho18 | (simp only [Int.reduceToNat] at ho18; rw [← Ny104.out] at ho18)); have n_ := y3 (Kd.R_lower ho18 (below_size (zB))) (zb BK101.out hb) (below_step (zB) hb); clear BK101 HB; obtain ⟨HO106, BK101, HB⟩ := n_; clear hb ho18))
             go_loopg [9, 10] kj10 (fun kq v9 v10 w' => ∃ (x9_3 : List Int) (x10_3 : Int), v10 = .int .i64 x10_3 ∧ Aside0 (spec_HeightsBehind.l0 kq l1 a2 x9_3 x10_3 l0_0 = some (r1, r2)) ∧ Aside0 (kq ≤ kj10) ∧ Aside0 (Kd.R (Kd.int .i64) 2 w' w.heap.size (fun _ => True) v9 x9_3) ∧ Aside0 (w'.heap[gb101]? = some (.cells #[(.slice A0_0 l0_0.length c0_0)] 26 (0, 0))) ∧ Aside0 (Below w.heap.size w w'))
             case atStart => exact ⟨(y104), (0), zF, H', ⟨Nat.le_refl _⟩, ⟨zR HO106.out⟩, ⟨zG BK101.out⟩, ⟨zB⟩⟩
             case round =>
               clear H'
               try clear c1
               try clear c13
               try clear c13b0
               try clear c13b1
               try clear c14
               try clear c14b0
               try clear c14b1
               try clear c15
               try clear c15b0
               try clear c15b1
               try clear hcz16_0
               try clear hcz7_0
               try clear hfz16_0
               try clear hfz7_0
               obtain ⟨x9_3, x10_3, rfl, HA, HK3, HO_9, BK101, HB⟩ := hrel
               cases gk with
               | zero => exact absurd HA.out (by simp [spec_HeightsBehind.l0])
               | succ k3 =>
                 have H := HA.out
                 clear HA
                 simp only [spec_HeightsBehind.l0] at H
                 by_cases c19 : x10_3 < a2
                 · rw [if_pos c19] at H
                   have c19b0 : decide (x10_3 < a2) = true := decide_eq_true c19
                   clear c19
                   replace H := Option.bind_eq_some_iff.mp H
                   obtain ⟨t107, A200, H⟩ := H
                   replace H : (if (l1.length : Int) = 0 then (none) else (if 0 ≤ (Int.tmod x10_3 (l1.length : Int)) then (if (Int.tmod x10_3 (l1.length : Int)) < (l1.length : Int) then (if (rd l1 (Int.tmod x10_3 (l1.length : Int))) ≥ 0 then (if 0 ≤ (rd l1 (Int.tmod x10_3 (l1.length : Int))) then (if (rd l1 (Int.tmod x10_3 (l1.length : Int))) < (t107.length : Int) then (spec_HeightsBehind.l0 k3 l1 a2 (t107.set ((rd l1 (Int.tmod x10_3 (l1.length : Int))) : Int).toNat 0) (wrap64 (x10_3 + 1)) l0_0) else (none)) else (none)) else (spec_HeightsBehind.l0 k3 l1 a2 t107 (wrap64 (x10_3 + 1)) l0_0)) else (none)) else (none))) = some (r1, r2) := H
                   have A20 := Aside0.mk A200
                   clear A200
                   by_cases c21 : (l1.length : Int) = 0
                   · rw [if_pos c21] at H
                     exact absurd H (by simp)
                   · rw [if_neg c21] at H
                     have c21b0 : ((l1.length : Int) == 0) = false := beq_eq_false_iff_ne.mpr c21
                     have c21b1 : ((l1.length : Int) != 0) = true := bne_iff_ne.mpr c21
                     have c21b2 : ¬ (l1 = []) := fun h_ => c21 (by rw [h_]; rfl)
                     obtain ⟨ji22, hji22⟩ : ∃ j_ : Int, (Int.tmod x10_3 (l1.length : Int)) = j_ := ⟨_, rfl⟩
                     replace H : (if 0 ≤ (ji22) then (if (ji22) < (l1.length : Int) then (if (rd l1 (ji22)) ≥ 0 then (if 0 ≤ (rd l1 (ji22)) then (if (rd l1 (ji22)) < (t107.length : Int) then (spec_HeightsBehind.l0 k3 l1 a2 (t107.set ((rd l1 (ji22)) : Int).toNat 0) (wrap64 (x10_3 + 1)) l0_0) else (none)) else (none)) else (spec_HeightsBehind.l0 k3 l1 a2 t107 (wrap64 (x10_3 + 1)) l0_0)) else (none)) else (none)) = some (r1, r2) := by first | (rw [hji22] at H; exact H) | (simp only [hji22] at H ⊢; exact H)
                     (try rw [hji22] at A20)
                     by_cases c23 : 0 ≤ (ji22)
                     · rw [if_pos c23] at H
                       have c23b0 : decide (0 ≤ (ji22)) = true := decide_eq_true c23
                       clear c23
                       by_cases c24 : (ji22) < (l1.length : Int)
                       · rw [if_pos c24] at H
                         have c24b0 : decide ((ji22) < (l1.length : Int)) = true := decide_eq_true c24
                         clear c24
                         by_cases c25 : (rd l1 (ji22)) ≥ 0
                         · rw [if_pos c25] at H
                           have c25b0 : decide (0 ≤ (rd l1 (ji22))) = true := decide_eq_true c25
                           clear c25
                           by_cases c26 : 0 ≤ (rd l1 (ji22))
                           · rw [if_pos c26] at H
                             have c26b0 : decide (0 ≤ (rd l1 (ji22))) = true := decide_eq_true c26
                             clear c26
                             by_cases c27 : (rd l1 (ji22)) < (t107.length : Int)
                             · rw [if_pos c27] at H
                               have c27b0 : decide ((rd l1 (ji22)) < (t107.length : Int)) = true := decide_eq_true c27
                               clear c27
                               obtain ⟨y111, hy111⟩ : ∃ y_ : List Int, y_ = (t107.set ((rd l1 (ji22)) : Int).toNat 0) := ⟨_, rfl⟩
                               replace H : (spec_HeightsBehind.l0 k3 l1 a2 y111 (wrap64 (x10_3 + 1)) l0_0) = some (r1, r2) := zH hy111
                               have Ny111 := Aside0.mk hy111
                               clear hy111
                               have H' := Aside0.mk H
                               clear H
                               have hcz29_0 := zc BK101.out
                               have hfz29_0 := blk_frozen BK101.out 0
                               obtain ⟨Ao30, co30, eo30⟩ := Kd.R_slice HO_9.out
                               subst eo30
                               go_wp2_with (first | ((with_reducible refine gate_callee (f := 41) rfl ?_); refine goesL_ (some 36) rfl rfl Try.func41 zk rfl #[.agg #[.slice A0_0 l0_0.length c0_0], .slice Ao30 x9_3.length co30, .int .i64 1] rfl zA ?_; (with_reducible refine (spec_l06Grow.calls k3 _ _ l0_0 _ _ x9_3 1 t107 _ ?side1 ?side2 ?side3 ?side4 A20.out).mono ?_); (case side1 => exact zC (Kd.C_below HR0_0.out HB.out)); (case side2 => exact HC0_0.out); (case side3 => exact zC (Kd.R_reads' HO_9.out).2.2); (case side4 => exact (Kd.R_reads' HO_9.out).2.1); rintro e w31 ⟨v108, rfl, ho0, hb⟩; refine ⟨_, rfl, ?_⟩; have n_ := y4 (Kd.R_elder' (zR HO_9.out) (Kd.R_base ho0) hb) (Kd.R_lower (Kd.R_new' ho0 (Kd.R_lt (zR HO_9.out))) (below_size (zB))) (zb BK101.out hb) (below_step (zB) hb); clear HO_9 BK101 HB; obtain ⟨HO_9, HO109, BK101, HB⟩ := n_; (try clear hb); (try clear hb2); (try clear hk); (try clear hi); (try clear ho0); have p110 : 0 ≤ ((ji22) : Int) := zD; have q110 : (ji22) < (l1.length : Int) := zD; obtain ⟨ad110, e110, hx110_0⟩ := Kd.at_int HR1.out (ji22) p110 q110; cases e110; replace hx110_0 := (HB.out.cell (World.block_lt_of_cell? w _ hx110_0)).trans hx110_0; replace p110 := eq_true p110; replace q110 := eq_true q110; have p28 : 0 ≤ ((rd l1 (ji22)) : Int) := zD; have q28 : ((rd l1 (ji22)) : Int) < ((t107.length : Int) : Int) := zD; obtain ⟨go28, co28, eo28, gb28, gl28, cl28, HG28⟩ := Kd.R_form HO109.out (by omega); (first | cases eo28 | (injection eo28 with ea_ en_ ec_; (first | subst ea_ | (injection ea_ with ea_; subst ea_)); subst ec_; clear en_)); have GB28 := Aside0.mk gb28; have GG28 := Aside0.mk HG28; clear gb28 gl28 HG28; obtain ⟨hx28_0, hf28_0⟩ := Kd.R_celln 0 HO109.out ((rd l1 (ji22)) : Int) p28 q28; replace p28 := eq_true p28; replace q28 := eq_true q28; have n_ := Aside0.mk (Kd.R_mono (ok' := (fun k_ => some k_ ≠ (.slice Ao30 x9_3.length co30 : Value).ownBlock)) HO109.out (fun k_ hk => hk.2)); clear HO109; have HO109 := n_; clear n_; obtain ⟨hy32_, hz32_⟩ := Kd.R_celln 0 HO109.out ((rd l1 (ji22)) : Int) (zD) (zD); have HP32 := Kd.R_putg HO109.out ((rd l1 (ji22)) : Int) 0) | ((with_reducible refine gate_store (t := 2) (p := 48) rfl ?_); refine store_event (t := 2) (p := 48) (v := ?vo_w33) (w1 := (w31.setCell ⟨go28, ((rd l1 (ji22)) : Int).toNat, none⟩ (.int .i64 0))) ?hg ?ho ?hn ?hr ?_; (case ho => rfl); (case hg => rfl); (case hn => rfl); (case hr => first | (go_simp; done) | (go_simp; rfl)); intro w33 hw; have hg : w31.grownBy w33 (some go28) := (by rw [hw]; exact HP32.2); have hp_ : Kd.R (Kd.int .i64) 2 w33 w.heap.size (fun k_ => some k_ ≠ (.slice Ao30 x9_3.length co30 : Value).ownBlock) (.slice (some ⟨go28, 0, none⟩) t107.length co28) y111 := (by rw [hw, Ny111.out]; exact HP32.1); clear HP32; have n_ := y4 (Kd.R_after (v := (.slice (some ⟨go28, 0, none⟩) t107.length co28)) (v1 := (.slice (some ⟨go28, 0, none⟩) t107.length co28)) (ok := (fun _ => True)) (zR HO_9.out) hg (.inl rfl)) (blk_grown (g := gb101) (o := .cells #[.slice A0_0 l0_0.length c0_0] 26 (0, 0)) (zG BK101.out) hg (Kd.R_ne HO109.out BK101.out (by decide))) (hp_) ((by rw [hw]; exact below_set (HB.out) GB28.out : Below w.heap.size w w33)); clear HO_9 BK101 HO109 HB; obtain ⟨HO_9, BK101, HO109, HB⟩ := n_; clear hg hw hp_))
                               go_roundg k3
                               case measure => have := HJ4.out; have := HJ10.out; have := HK3.out; omega
                               case rel => exact ⟨(y111), (wrap64 (x10_3 + 1)), zF, H', ⟨by have := HJ4.out; have := HJ10.out; have := HK3.out; omega⟩, ⟨by refine zR ?_; exact Kd.R_mono HO109.out (fun _ hk => trivial)⟩, ⟨zG BK101.out⟩, ⟨zB⟩⟩
                             · rw [if_neg c27] at H
                               exact absurd H (by simp)
                           · rw [if_neg c26] at H
                             exact absurd H (by simp)
                         · rw [if_neg c25] at H
                           have c25b0 : decide (0 ≤ (rd l1 (ji22))) = false := decide_eq_false c25
                           clear c25
                           have H' := Aside0.mk H
                           clear H
                           have hcz34_0 := zc BK101.out
                           have hfz34_0 := blk_frozen BK101.out 0
                           obtain ⟨Ao35, co35, eo35⟩ := Kd.R_slice HO_9.out
                           subst eo35
                           go_wp2_with (first | ((with_reducible refine gate_callee (f := 41) rfl ?_); refine goesL_ (some 36) rfl rfl Try.func41 zk rfl #[.agg #[.slice A0_0 l0_0.length c0_0], .slice Ao35 x9_3.length co35, .int .i64 1] rfl zA ?_; (with_reducible refine (spec_l06Grow.calls k3 _ _ l0_0 _ _ x9_3 1 t107 _ ?side1 ?side2 ?side3 ?side4 A20.out).mono ?_); (case side1 => exact zC (Kd.C_below HR0_0.out HB.out)); (case side2 => exact HC0_0.out); (case side3 => exact zC (Kd.R_reads' HO_9.out).2.2); (case side4 => exact (Kd.R_reads' HO_9.out).2.1); rintro e w36 ⟨v108, rfl, ho0, hb⟩; refine ⟨_, rfl, ?_⟩; have n_ := y4 (Kd.R_elder' (zR HO_9.out) (Kd.R_base ho0) hb) (Kd.R_lower (Kd.R_new' ho0 (Kd.R_lt (zR HO_9.out))) (below_size (zB))) (zb BK101.out hb) (below_step (zB) hb); clear HO_9 BK101 HB; obtain ⟨HO_9, HO109, BK101, HB⟩ := n_; (try clear hb); (try clear hb2); (try clear hk); (try clear hi); (try clear ho0); have p110 : 0 ≤ ((ji22) : Int) := zD; have q110 : (ji22) < (l1.length : Int) := zD; obtain ⟨ad110, e110, hx110_0⟩ := Kd.at_int HR1.out (ji22) p110 q110; cases e110; replace hx110_0 := (HB.out.cell (World.block_lt_of_cell? w _ hx110_0)).trans hx110_0; replace p110 := eq_true p110; replace q110 := eq_true q110))
                           go_roundg k3
                           case measure => have := HJ4.out; have := HJ10.out; have := HK3.out; omega
                           case rel => exact ⟨(t107), (wrap64 (x10_3 + 1)), zF, H', ⟨by have := HJ4.out; have := HJ10.out; have := HK3.out; omega⟩, ⟨by refine zR ?_; exact Kd.R_mono HO109.out (fun _ hk => trivial)⟩, ⟨zG BK101.out⟩, ⟨zB⟩⟩
                       · rw [if_neg c24] at H
                         exact absurd H (by simp)
                     · rw [if_neg c23] at H
                       exact absurd H (by simp)
                 · rw [if_neg c19] at H
                   have c19b0 : decide (x10_3 < a2) = false := decide_eq_false c19
                   clear c19
                   simp only [Option.some.injEq, Prod.mk.injEq] at H
                   obtain ⟨rfl, rfl⟩ := H
                   go_wp2
                   go_ret2
                   exact ⟨_, zE, zR HO_9.out, zB⟩
           · rw [if_neg c15] at H
             exact absurd H (by simp)
         · rw [if_neg c14] at H
           exact absurd H (by simp)
       · rw [if_neg c13] at H
         have c13b0 : (x8_10 == 0) = false := beq_eq_false_iff_ne.mpr c13
         have c13b1 : (x8_10 != 0) = true := bne_iff_ne.mpr c13
         simp only [Option.some.injEq, Prod.mk.injEq] at H
         obtain ⟨rfl, rfl⟩ := H
         go_wp2
         go_ret2
         exact ⟨_, zE, zN, zB⟩
end Go.Proofs.Ytgmciimgmnnhmaa.P
end
section
namespace Go.Proofs.Ytgmciimgmnnhmaa.P
open Go.RowKit Go.Proofs.YtgmciimgmnnhmaaW.PrintWords Go.Proofs.YtgmciimgmnnhmaaW.PrintLast Go.Proofs.YtgmciimgmnnhmaaW.PrintMore
attribute [local go_sem] max2_int min2_int max_two min_two max_three min_three max_four min_four   -- for this text's walks alone
set_option linter.unusedVariables false
set_option linter.unusedSimpArgs false
def laws_likeInts.l0 : Nat → List Int → List Int → Int → Option (Bool)
  | 0, _, _, _ => none
  | k + 1, x0, x1, x5 => if x5 < (x0.length : Int) then (if 0 ≤ x5 then (if x5 < (x1.length : Int) then (if (rd x0 x5) = (rd x1 x5) then (laws_likeInts.l0 k x0 x1 (wrap64 (x5 + 1))) else (some false)) else (none)) else (none)) else (some true)
def laws_likeInts.f (k : Nat) (l0 : List Int) (l1 : List Int) : Option (Bool) := if (l0.length : Int) = (l1.length : Int) then (laws_likeInts.l0 k l0 l1 0) else (some false)
theorem laws_likeInts.mono_l : ∀ k, (∀ y0 y1 y2, LeO (laws_likeInts.l0 k y0 y1 y2) (laws_likeInts.l0 (k + 1) y0 y1 y2))
  | 0 => fun _ _ _ r h => by simp [laws_likeInts.l0] at h
  | k + 1 => by
    have ih0 := laws_likeInts.mono_l k
    · intro y0 y1 y2
      unfold laws_likeInts.l0
      repeat' first | (with_reducible exact ih0 _ _ _) | (with_reducible exact LeO.refl _) | (with_reducible exact LeO.none _) | (with_reducible refine LeO.ite ?_ ?_) | (with_reducible refine LeO.bind ?_ (fun _ => ?_)) | exact ih0 _ _ _ | exact LeO.none _ | refine LeO.ite ?_ ?_ | refine LeO.bind ?_ (fun _ => ?_)
theorem laws_likeInts.mono : ∀ a0 a1 k, LeO (laws_likeInts.f k a0 a1) (laws_likeInts.f (k + 1) a0 a1) := by
  intro a0 a1 k
  have ih0 := laws_likeInts.mono_l k
  unfold laws_likeInts.f
  repeat' first | (with_reducible exact ih0 _ _ _) | (with_reducible exact LeO.refl _) | (with_reducible exact LeO.none _) | (with_reducible refine LeO.ite ?_ ?_) | (with_reducible refine LeO.bind ?_ (fun _ => ?_)) | exact ih0 _ _ _ | exact LeO.none _ | refine LeO.ite ?_ ?_ | refine LeO.bind ?_ (fun _ => ?_)
set_option maxHeartbeats 8000000 in
set_option maxRecDepth 100000 in
theorem laws_likeInts.calls (k : Nat) (A0 : Option Addr) (c0 : Nat) (l0 : List Int) (A1 : Option Addr) (c1 : Nat) (l1 : List Int) (r : Bool) (w : World) (hr0 : Kd.C (Kd.int .i64) w A0 l0.length l0) (hc0 : l0.length ≤ c0) (hr1 : Kd.C (Kd.int .i64) w A1 l1.length l1) (hc1 : l1.length ≤ c1) (h : laws_likeInts.f k l0 l1 = some r) :
    Calls Try.prog 11 #[.slice A0 l0.length c0, .slice A1 l1.length c1] w fun e w' => e = .returned (.bool r) ∧ Drawn0 w w' := by
 have HR0 := Aside0.mk hr0
 have HC0 := Aside0.mk hc0
 clear hr0 hc0
 have HR1 := Aside0.mk hr1
 have HC1 := Aside0.mk hc1
 clear hr1 hc1
 have H : (if (l0.length : Int) = (l1.length : Int) then (laws_likeInts.l0 k l0 l1 0) else (some false)) = some r := h
 clear h
 by_cases c3 : (l0.length : Int) = (l1.length : Int)
 ·
  rw [if_pos c3] at H
  have c3b0 : ((l0.length : Int) == (l1.length : Int)) = true := beq_iff_eq.mpr c3
  have c3b1 : ((l0.length : Int) != (l1.length : Int)) = false := bne_eq_false_iff_eq.mpr c3
  have c3b2 : (l0.length == l1.length) = true := by first | simpa using c3 | (simp at c3 ⊢; omega)
  clear c3
  have H' := Aside0.mk H
  clear H
  go_enter Try.func11, Try.ntmps11
  go_wp2
  repeat (go_quiet (fail); try go_wp2)
  go_loopg [5] k (fun kq v5 w' => ∃ (x5_1 : Int), v5 = .int .i64 x5_1 ∧ Aside0 (laws_likeInts.l0 kq l0 l1 x5_1 = some r) ∧ Aside0 (kq ≤ k) ∧ Drawn0 w w')
  case atStart => exact ⟨(0), zF, H', ⟨Nat.le_refl _⟩, by repeat (first | exact Drawn0.refl _ | apply Drawn0.step)⟩
  clear H'
  try clear c3
  try clear c3b0
  try clear c3b1
  try clear c3b2
  obtain ⟨x5_1, rfl, HA, HK1, ⟨m1, rfl⟩⟩ := hrel
  cases gk with
  | zero => exact absurd HA.out (by simp [laws_likeInts.l0])
  | succ k1 =>
    have H := HA.out
    clear HA
    simp only [laws_likeInts.l0] at H
    by_cases c4 : x5_1 < (l0.length : Int)
    · rw [if_pos c4] at H
      have c4b0 : decide (x5_1 < (l0.length : Int)) = true := decide_eq_true c4
      clear c4
      by_cases c5 : 0 ≤ x5_1
      · rw [if_pos c5] at H
        have c5b0 : decide (0 ≤ x5_1) = true := decide_eq_true c5
        clear c5
        by_cases c6 : x5_1 < (l1.length : Int)
        · rw [if_pos c6] at H
          have c6b0 : decide (x5_1 < (l1.length : Int)) = true := decide_eq_true c6
          clear c6
          by_cases c7 : (rd l0 x5_1) = (rd l1 x5_1)
          · rw [if_pos c7] at H
            have c7b0 : ((rd l0 x5_1) == (rd l1 x5_1)) = true := beq_iff_eq.mpr c7
            have c7b1 : ((rd l0 x5_1) != (rd l1 x5_1)) = false := bne_eq_false_iff_eq.mpr c7
            clear c7
            have H' := Aside0.mk H
            clear H
            have p101 : 0 ≤ (x5_1 : Int) := zD
            have q101 : x5_1 < (l0.length : Int) := zD
            obtain ⟨ad101, e101, hx101_0⟩ := Kd.at_int HR0.out x5_1 p101 q101
            cases e101
            replace p101 := eq_true p101
            replace q101 := eq_true q101
            have p102 : 0 ≤ (x5_1 : Int) := zD
            have q102 : x5_1 < (l1.length : Int) := zD
            obtain ⟨ad102, e102, hx102_0⟩ := Kd.at_int HR1.out x5_1 p102 q102
            cases e102
            replace p102 := eq_true p102
            replace q102 := eq_true q102
            go_wp2
            repeat (go_quiet (fail); try go_wp2)
            go_roundg k1
            case measure => have := HK1.out; omega
            case rel => exact ⟨(wrap64 (x5_1 + 1)), zF, H', ⟨by have := HK1.out; omega⟩, by repeat (first | exact Drawn0.refl _ | apply Drawn0.step)⟩
          · rw [if_neg c7] at H
            have c7b0 : ((rd l0 x5_1) == (rd l1 x5_1)) = false := beq_eq_false_iff_ne.mpr c7
            have c7b1 : ((rd l0 x5_1) != (rd l1 x5_1)) = true := bne_iff_ne.mpr c7
            obtain rfl := Option.some.inj H
            have p101 : 0 ≤ (x5_1 : Int) := zD
            have q101 : x5_1 < (l0.length : Int) := zD
            obtain ⟨ad101, e101, hx101_0⟩ := Kd.at_int HR0.out x5_1 p101 q101
            cases e101
            replace p101 := eq_true p101
            replace q101 := eq_true q101
            have p102 : 0 ≤ (x5_1 : Int) := zD
            have q102 : x5_1 < (l1.length : Int) := zD
            obtain ⟨ad102, e102, hx102_0⟩ := Kd.at_int HR1.out x5_1 p102 q102
            cases e102
            replace p102 := eq_true p102
            replace q102 := eq_true q102
            go_wp2
            repeat (go_quiet (fail); try go_wp2)
            go_ret
            exact ⟨by first | rfl | (simp; done) | (simp [*]; done), by repeat (first | exact Drawn0.refl _ | apply Drawn0.step)⟩
        · rw [if_neg c6] at H
          exact absurd H (by simp)
      · rw [if_neg c5] at H
        exact absurd H (by simp)
    · rw [if_neg c4] at H
      have c4b0 : decide (x5_1 < (l0.length : Int)) = false := decide_eq_false c4
      clear c4
      obtain rfl := Option.some.inj H
      go_wp2
      repeat (go_quiet (fail); try go_wp2)
      go_ret
      exact ⟨by first | rfl | (simp; done) | (simp [*]; done), by repeat (first | exact Drawn0.refl _ | apply Drawn0.step)⟩
 rw [if_neg c3] at H
 have c3b0 : ((l0.length : Int) == (l1.length : Int)) = false := beq_eq_false_iff_ne.mpr c3
 have c3b1 : ((l0.length : Int) != (l1.length : Int)) = true := bne_iff_ne.mpr c3
 have c3b2 : (l0.length == l1.length) = false := by first | simpa using c3 | (simp at c3 ⊢; omega)
 obtain rfl := Option.some.inj H
 go_enter Try.func11, Try.ntmps11
 go_wp2
 repeat (go_quiet (fail); try go_wp2)
 go_ret
 exact ⟨by first | rfl | (simp; done) | (simp [*]; done), by repeat (first | exact Drawn0.refl _ | apply Drawn0.step)⟩
end Go.Proofs.Ytgmciimgmnnhmaa.P
end
section
namespace Go.Proofs.Ytgmciimgmnnhmaa.P
open Go.RowKit Go.Proofs.YtgmciimgmnnhmaaW.PrintWords Go.Proofs.YtgmciimgmnnhmaaW.PrintLast Go.Proofs.YtgmciimgmnnhmaaW.PrintMore
attribute [local go_sem] max2_int min2_int max_two min_two max_three min_three max_four min_four   -- for this text's walks alone
set_option linter.unusedVariables false
set_option linter.unusedSimpArgs false
def spec_l06With.l0 : Nat → List Int → Int → Int → List Int → Int → Int → List Int → Option (List Int × List Int)
  | 0, _, _, _, _, _, _, _ => none
  | k + 1, x6, x7, x8, x106000, x106001, x106002, x115000 => if x8 < (x115000.length : Int) then ((spec_l01Next.f x106000 x106001 x106002 x7).bind fun bt121 => (if x6.length < 17592186044416 then (spec_l06With.l0 k (x6 ++ [bt121.1]) x7 (wrap64 (x8 + 1)) x106000 bt121.2.1 bt121.2.2 x115000) else (none))) else ((spec_l01Next.f x106000 x106001 x106002 20).bind fun bt127 => (if bt127.1 = 0 then ((spec_l01Pick.f x106000 bt127.2.1 bt127.2.2 (([(-1), 100001, 100000] : List Int))).bind fun bt133 => (if 0 < (x6.length : Int) then ((spec_l06Bad.f x106000 bt133.2.1 bt133.2.2 x115000).bind fun bt137 => (some (bt137.1, (x6.set (0 : Int).toNat bt133.1)))) else (none))) else ((spec_l06Bad.f x106000 bt127.2.1 bt127.2.2 x115000).bind fun bt142 => (some (bt142.1, x6)))))
def spec_l06With.f (k : Nat) (l0 : List Int) : Option (List Int × List Int) := (spec_l01From.f k l0).bind fun bt102 => ((spec_l06DrawOf.f k bt102.1 bt102.2.1 bt102.2.2).bind fun bt106 => ((spec_l01Pick.f bt102.1 bt106.2.1 bt106.2.2 (([4, 30, 100000] : List Int))).bind fun bt118 => (spec_l06With.l0 k (([] : List Int)) bt118.1 0 bt102.1 bt118.2.1 bt118.2.2 bt106.1)))
theorem spec_l06With.mono_l : ∀ k, (∀ y0 y1 y2 y3 y4 y5 y6, LeO (spec_l06With.l0 k y0 y1 y2 y3 y4 y5 y6) (spec_l06With.l0 (k + 1) y0 y1 y2 y3 y4 y5 y6))
  | 0 => fun _ _ _ _ _ _ _ r h => by simp [spec_l06With.l0] at h
  | k + 1 => by
    have ih0 := spec_l06With.mono_l k
    · intro y0 y1 y2 y3 y4 y5 y6
      unfold spec_l06With.l0
      repeat' first | (with_reducible exact ih0 _ _ _ _ _ _ _) | (with_reducible exact spec_l01From.mono _ _) | (with_reducible exact spec_l06DrawOf.mono _ _ _ _) | (with_reducible exact LeO.refl _) | (with_reducible exact LeO.none _) | (with_reducible refine LeO.ite ?_ ?_) | (with_reducible refine LeO.bind ?_ (fun _ => ?_)) | exact ih0 _ _ _ _ _ _ _ | exact spec_l01From.mono _ _ | exact spec_l06DrawOf.mono _ _ _ _ | exact LeO.none _ | refine LeO.ite ?_ ?_ | refine LeO.bind ?_ (fun _ => ?_)
theorem spec_l06With.mono : ∀ a0 k, LeO (spec_l06With.f k a0) (spec_l06With.f (k + 1) a0) := by
  intro a0 k
  have ih0 := spec_l06With.mono_l k
  unfold spec_l06With.f
  repeat' first | (with_reducible exact ih0 _ _ _ _ _ _ _) | (with_reducible exact spec_l01From.mono _ _) | (with_reducible exact spec_l06DrawOf.mono _ _ _ _) | (with_reducible exact LeO.refl _) | (with_reducible exact LeO.none _) | (with_reducible refine LeO.ite ?_ ?_) | (with_reducible refine LeO.bind ?_ (fun _ => ?_)) | exact ih0 _ _ _ _ _ _ _ | exact spec_l01From.mono _ _ | exact spec_l06DrawOf.mono _ _ _ _ | exact LeO.none _ | refine LeO.ite ?_ ?_ | refine LeO.bind ?_ (fun _ => ?_)
set_option maxHeartbeats 8000000 in
set_option maxRecDepth 100000 in
theorem spec_l06With.calls (k : Nat) (A0 : Option Addr) (c0 : Nat) (l0 : List Int) (r1 : List Int) (r2 : List Int) (w : World) (hr0 : Kd.C (Kd.int .u8) w A0 l0.length l0) (hc0 : l0.length ≤ c0) (h : spec_l06With.f k l0 = some (r1, r2)) :
    Calls Try.prog 42 #[.slice A0 l0.length c0] w fun e w' => ∃ v0_ v1_ : Value, e = .returned (.tuple #[.agg #[v0_], v1_]) ∧ Kd.R (Kd.int .i64) 2 w' w.heap.size (fun k_ => some k_ ≠ (v1_ : Value).ownBlock) v0_ r1 ∧ Kd.R (Kd.int .i64) 2 w' w.heap.size (fun k_ => some k_ ≠ (v0_ : Value).ownBlock) v1_ r2 ∧ Below w.heap.size w w' := by
 have hu26 := Try.underlying26
 have HR0 := Aside0.mk hr0
 have HC0 := Aside0.mk hc0
 clear hr0 hc0
 have HB := Aside0.mk (Below.refl w.heap.size w)
 have H : ((spec_l01From.f k l0).bind fun bt102 => ((spec_l06DrawOf.f k bt102.1 bt102.2.1 bt102.2.2).bind fun bt106 => ((spec_l01Pick.f bt102.1 bt106.2.1 bt106.2.2 (([4, 30, 100000] : List Int))).bind fun bt118 => (spec_l06With.l0 k (([] : List Int)) bt118.1 0 bt102.1 bt118.2.1 bt118.2.2 bt106.1)))) = some (r1, r2) := h
 clear h
 replace H := Option.bind_eq_some_iff.mp H
 obtain ⟨⟨t102, t103, t104⟩, A20, H⟩ := H
 replace H : ((spec_l06DrawOf.f k t102 t103 t104).bind fun bt106 => ((spec_l01Pick.f t102 bt106.2.1 bt106.2.2 (([4, 30, 100000] : List Int))).bind fun bt118 => (spec_l06With.l0 k (([] : List Int)) bt118.1 0 t102 bt118.2.1 bt118.2.2 bt106.1))) = some (r1, r2) := H
 have A2 := Aside0.mk A20
 clear A20
 replace H := Option.bind_eq_some_iff.mp H
 obtain ⟨⟨t106, t109, t110⟩, A30, H⟩ := H
 replace H : ((spec_l01Pick.f t102 t109 t110 (([4, 30, 100000] : List Int))).bind fun bt118 => (spec_l06With.l0 k (([] : List Int)) bt118.1 0 t102 bt118.2.1 bt118.2.2 t106)) = some (r1, r2) := H
 have A3 := Aside0.mk A30
 clear A30
 obtain ⟨y111, hy111⟩ : ∃ y_ : List Int, y_ = (([] : List Int)) := ⟨_, rfl⟩
 replace H : ((spec_l01Pick.f t102 t109 t110 (([4, 30, 100000] : List Int))).bind fun bt118 => (spec_l06With.l0 k y111 bt118.1 0 t102 bt118.2.1 bt118.2.2 t106)) = some (r1, r2) := zH hy111
 have Ny111 := Aside0.mk hy111
 clear hy111
 obtain ⟨y115, hy115⟩ : ∃ y_ : List Int, y_ = (([4, 30, 100000] : List Int)) := ⟨_, rfl⟩
 replace H : ((spec_l01Pick.f t102 t109 t110 y115).bind fun bt118 => (spec_l06With.l0 k y111 bt118.1 0 t102 bt118.2.1 bt118.2.2 t106)) = some (r1, r2) := zH hy115
 have Ny115 := Aside0.mk hy115
 clear hy115
 replace H := Option.bind_eq_some_iff.mp H
 obtain ⟨⟨t118, t119, t120⟩, A40, H⟩ := H
 replace H : (spec_l06With.l0 k y111 t118 0 t102 t119 t120 t106) = some (r1, r2) := H
 have A4 := Aside0.mk A40
 clear A40
 have H' := Aside0.mk H
 clear H
 go_enter Try.func42, Try.ntmps42
 go_wp2_with (first | ((with_reducible refine gate_dst (N := 2) rfl ?_); refine box_event zr (N := 2) zr (cs := #[.slice none 0 0]) (t := 26) zg ?_; intro gb101 hg w5 hbox hb; have n_ := y4 (below_step (zB) hb) (hbox) ((zS hg : w.heap.size ≤ gb101)) ((zS hg : w.heap.size ≤ gb101)); clear HB; obtain ⟨HB, BK101, GW101, GE101⟩ := n_; clear hb hbox hg) | ((with_reducible refine gate_callee (f := 33) rfl ?_); refine goesL_ (some 10) rfl rfl Try.func33 zk rfl #[.slice A0 l0.length c0] rfl zA ?_; (with_reducible refine (spec_l01From.calls k _ _ l0 t102 t103 t104 w _ ?side1 ?side2 ?side3 A2.out).mono ?_); (case side1 => exact zB); (case side2 => exact HR0.out); (case side3 => exact HC0.out); rintro e w6 ⟨g105, rfl, hi, hb, hb2⟩; refine ⟨_, rfl, ?_⟩; have n_ := y5 (zb BK101.out hb2) (hb) (hi) (IsS68.ne_blk hi (zb BK101.out hb2) (by decide)) (Ne.symm (IsS68.ne_blk hi (zb BK101.out hb2) (by decide))); clear BK101 HB; obtain ⟨BK101, HB, HI105, NB105_101, NB101_105⟩ := n_; (try clear hb); (try clear hb2); (try clear hk); (try clear hi)) | ((with_reducible refine gate_callee (f := 57) rfl ?_); refine goesL_ (some 12) rfl rfl Try.func57 zk rfl #[.pointer (some ⟨g105, 0, none⟩)] rfl zA ?_; (with_reducible refine (spec_l06DrawOf.calls k g105 t102 t103 t104 t106 t109 t110 w _ ?side1 ?side2 A3.out).mono ?_); (case side1 => exact zX HI105.out); (case side2 => exact zB); rintro e w7 ⟨v107, rfl, ho0, hi, hb, hk⟩; refine ⟨_, rfl, ?_⟩; have n_ := y4 (KeepBut.blk hk (g' := gb101) (o := .cells #[.slice none 0 0] 26 (0, 0)) (zG BK101.out) NB101_105.out (by simp)) (Kd.R_lower ho0 (below_size (zB))) (hb) (hi); clear BK101 HB HI105; obtain ⟨BK101, HO108, HB, HI105⟩ := n_; (try clear hb); (try clear hb2); (try clear hk); (try clear hi); (try clear ho0)) | ((with_reducible refine gate_dst (N := 13) rfl ?_); refine Kd.R_lit (Kd.int .i64) _ 2 ?hg (N := 13) ?hd (xs := ([] : List Int)) (inner := []) (ok := fun _ => True) (okp := fun _ => True) ?hr ?hp (fun _ hk => hk) trivial (Below.refl _ _) (Nat.le_refl _) (by simp) ?_; (case hd => rfl); (case hg => rfl); (case hr => first | (go_simp; done) | (go_simp; rfl)); (case hp => exact (Reps.none _ _)); intro v112 w8 ho9 hb hg_ hnew_; clear hg_ hnew_; (first | rw [← Ny111.out] at ho9 | (simp only [Int.reduceToNat] at ho9; rw [← Ny111.out] at ho9)); have n_ := y5 (Kd.R_elder' (zR HO108.out) (Kd.R_base ho9) hb) (Kd.R_lower (Kd.R_new' ho9 (Kd.R_lt (zR HO108.out))) (below_size (zB))) (zb BK101.out hb) (IsS68.below (zX HI105.out) hb) (below_step (zB) hb); clear HO108 BK101 HI105 HB; obtain ⟨HO108, HO113, BK101, HI105, HB⟩ := n_; clear hb ho9) | ((with_reducible refine gate_dst (N := 5) rfl ?_); refine box_event zr (N := 5) zr (cs := #[.slice none 0 0]) (t := 26) zg ?_; intro gb114 hg w10 hbox hb; have n_ := y12 (Kd.R_below (zR HO108.out) hb) (Kd.R_below (zR HO113.out) hb) (zb BK101.out hb) (IsS68.below (zX HI105.out) hb) (below_step (zB) hb) (hbox) ((zS hg : w.heap.size ≤ gb114)) ((zS hg : w.heap.size ≤ gb114)) ((zL hg BK101.out : gb101 ≠ gb114)) ((zM hg BK101.out : gb114 ≠ gb101)) ((by rw [hg]; exact Nat.ne_of_lt (IsS68.lt (show IsS68 w _ g105 t102 t109 t110 from zX HI105.out)) : g105 ≠ gb114)) ((by rw [hg]; exact Nat.ne_of_gt (IsS68.lt (show IsS68 w _ g105 t102 t109 t110 from zX HI105.out)) : gb114 ≠ g105)); clear HO108 HO113 BK101 HI105 HB; obtain ⟨HO108, HO113, BK101, HI105, HB, BK114, GW114, GE114, NB101_114, NB114_101, NB105_114, NB114_105⟩ := n_; clear hb hbox hg; obtain ⟨Ao11, co11, eo11⟩ := Kd.R_slice HO108.out; subst eo11; have hnb12 := NB114_101.out; have hnc12 := NB101_114.out; have hnb13 := NB114_105.out; have hnc13 := NB105_114.out; have hcz14_0 := zc BK114.out; have hfz14_0 := blk_frozen BK114.out 0) | ((with_reducible refine gate_dst (N := 15) rfl ?_); refine Kd.R_lit (Kd.int .i64) _ 2 ?hg (N := 15) ?hd (xs := ([4, 30, 100000] : List Int)) (inner := [.int .i64 4, .int .i64 30, .int .i64 100000]) (ok := fun _ => True) (okp := fun _ => True) ?hr ?hp (fun _ hk => hk) trivial (Below.refl _ _) (Nat.le_refl _) (by simp) ?_; (case hd => rfl); (case hg => rfl); (case hr => first | (go_simp; done) | (go_simp; rfl)); (case hp => exact (Reps.one (show Kd.M (Kd.int .i64) _ _ _ 4 [.int .i64 4] from rfl) (Reps.one (show Kd.M (Kd.int .i64) _ _ _ 30 [.int .i64 30] from rfl) (Reps.one (show Kd.M (Kd.int .i64) _ _ _ 100000 [.int .i64 100000] from rfl) (Reps.none _ _))))); intro v116 w15 ho16 hb hg_ hnew_; clear hg_ hnew_; (first | rw [← Ny115.out] at ho16 | (simp only [Int.reduceToNat] at ho16; rw [← Ny115.out] at ho16)); have n_ := y7 (Kd.R_elder' (by refine zR ?_; exact (Kd.R_mono (Kd.R_far (p := ⟨gb114, 0, none⟩) (Kd.R_types HO108.out BK114.out (by decide)) (fun _ hk => hk.2) (.slice Ao11 t106.length co11)) (fun _ h_ => h_.1))) (Kd.R_base ho16) hb) (Kd.R_elder' (by refine zR ?_; exact (Kd.R_mono (Kd.R_far (p := ⟨gb114, 0, none⟩) (Kd.R_types HO113.out BK114.out (by decide)) (fun _ hk => hk.2) (.slice Ao11 t106.length co11)) (fun _ h_ => h_.1))) (Kd.R_base ho16) hb) (Kd.R_lower (Kd.R_new' (Kd.R_new' ho16 (Kd.R_lt (by refine zR ?_; exact (Kd.R_mono (Kd.R_far (p := ⟨gb114, 0, none⟩) (Kd.R_types HO108.out BK114.out (by decide)) (fun _ hk => hk.2) (.slice Ao11 t106.length co11)) (fun _ h_ => h_.1))))) (Kd.R_lt (by refine zR ?_; exact (Kd.R_mono (Kd.R_far (p := ⟨gb114, 0, none⟩) (Kd.R_types HO113.out BK114.out (by decide)) (fun _ hk => hk.2) (.slice Ao11 t106.length co11)) (fun _ h_ => h_.1))))) (below_size (zB))) (blk_below (g := gb101) (o := .cells #[.slice none 0 0] 26 (0, 0)) (by refine zG ?_; refine blk_far ?_ NB101_114.out _; refine zG ?_; exact BK101.out) hb) (IsS68.below (show IsS68 w (w10.setCell ⟨gb114, 0, none⟩ (.slice Ao11 t106.length co11)) g105 t102 t109 t110 from zX HI105.out) hb) (blk_below (g := gb114) (o := .cells #[.slice Ao11 t106.length co11] 26 (0, 0)) (by refine zG ?_; refine blk_put (cs := #[.slice none 0 0]) ?_ 0 _ rfl; refine zG ?_; exact BK114.out) hb) (below_step (zB) hb); clear HO108 HO113 BK101 HI105 BK114 HB; obtain ⟨HO108, HO113, HO117, BK101, HI105, BK114, HB⟩ := n_; clear hb ho16; obtain ⟨Ao17, co17, eo17⟩ := Kd.R_slice HO117.out; subst eo17) | ((with_reducible refine gate_callee (f := 35) rfl ?_); refine goesL_ (some 16) rfl rfl Try.func35 zk rfl #[.pointer (some ⟨g105, 0, none⟩), .slice Ao17 y115.length co17] rfl zA ?_; (with_reducible refine (spec_l01Pick.calls g105 t102 t109 t110 _ _ y115 t118 t119 t120 w _ ?side1 ?side2 ?side3 ?side4 ?side5 A4.out).mono ?_); (case side1 => exact zX HI105.out); (case side2 => exact zB); (case side3 => exact zC (Kd.R_reads' HO117.out).2.2); (case side4 => exact (Kd.R_reads' HO117.out).2.1); (case side5 => exact far_slice (IsS68.own_ne HI105.out HO117.out (by decide))); rintro e w18 ⟨rfl, hi, hb, hk⟩; refine ⟨_, rfl, ?_⟩; have n_ := y7 (KeepBut.blk hk (g' := gb101) (o := .cells #[.slice none 0 0] 26 (0, 0)) (zG BK101.out) NB101_105.out (by simp)) (Kd.R_mono (Kd.R_keep (IsS68.apart (show IsS68 w _ g105 t102 t109 t110 from zX HI105.out) (zR HO108.out) (by decide)) hk (fun _ h => h.2)) (fun _ h => h.1)) (Kd.R_mono (Kd.R_keep (IsS68.apart (show IsS68 w _ g105 t102 t109 t110 from zX HI105.out) (zR HO113.out) (by decide)) hk (fun _ h => h.2)) (fun _ h => h.1)) (KeepBut.blk hk (g' := gb114) (o := .cells #[.slice Ao11 t106.length co11] 26 (0, 0)) (zG BK114.out) NB114_105.out (by simp)) (Kd.R_mono (Kd.R_keep (IsS68.apart (show IsS68 w _ g105 t102 t109 t110 from zX HI105.out) (zR HO117.out) (by decide)) hk (fun _ h => h.2)) (fun _ h => h.1)) (hb) (hi); clear BK101 HO108 HO113 BK114 HO117 HB HI105; obtain ⟨BK101, HO108, HO113, BK114, HO117, HB, HI105⟩ := n_; (try clear hb); (try clear hb2); (try clear hk); (try clear hi)))
 go_loopg [6, 8] k (fun kq v6 v8 w' => ∃ (x6_1 : List Int) (x8_1 : Int) (x106001_1 : Int) (x106002_1 : Int), v8 = .int .i64 x8_1 ∧ Aside0 (spec_l06With.l0 kq x6_1 t118 x8_1 t102 x106001_1 x106002_1 t106 = some (r1, r2)) ∧ Aside0 (kq ≤ k) ∧ Aside0 (Kd.R (Kd.int .i64) 2 w' w.heap.size (fun k_ => some k_ ≠ ((.slice Ao11 t106.length co11) : Value).ownBlock) v6 x6_1) ∧ Aside0 (Kd.R (Kd.int .i64) 2 w' w.heap.size (fun k_ => some k_ ≠ (v6 : Value).ownBlock) (.slice Ao11 t106.length co11) t106) ∧ Aside0 (w'.heap[gb101]? = some (.cells #[(.slice none 0 0)] 26 (0, 0))) ∧ Aside0 (w'.heap[gb114]? = some (.cells #[(.slice Ao11 t106.length co11)] 26 (0, 0))) ∧ Aside0 (IsS68 w w' g105 t102 x106001_1 x106002_1) ∧ Aside0 (Below w.heap.size w w'))
 case atStart => exact ⟨(y111), (0), (t119), (t120), zF, H', ⟨Nat.le_refl _⟩, ⟨by refine zR ?_; exact Kd.R_mono HO113.out (fun _ hk => hk.1.2)⟩, ⟨by refine zR ?_; exact Kd.R_mono HO108.out (fun _ hk => hk.1.2)⟩, ⟨zG BK101.out⟩, ⟨zG BK114.out⟩, ⟨zX HI105.out⟩, ⟨zB⟩⟩
 clear H'
 try clear hcz14_0
 try clear hfz14_0
 obtain ⟨x6_1, x8_1, x106001_1, x106002_1, rfl, HA, HK1, HO_6, HO_115000, BK101, BK114, HI105, HB⟩ := hrel
 cases gk with
 | zero => exact absurd HA.out (by simp [spec_l06With.l0])
 | succ k1 =>
   have H := HA.out
   clear HA
   simp only [spec_l06With.l0] at H
   by_cases c19 : x8_1 < (t106.length : Int)
   · rw [if_pos c19] at H
     have c19b0 : decide (x8_1 < (t106.length : Int)) = true := decide_eq_true c19
     clear c19
     replace H := Option.bind_eq_some_iff.mp H
     obtain ⟨⟨t121, t122, t123⟩, A200, H⟩ := H
     replace H : (if x6_1.length < 17592186044416 then (spec_l06With.l0 k1 (x6_1 ++ [t121]) t118 (wrap64 (x8_1 + 1)) t102 t122 t123 t106) else (none)) = some (r1, r2) := H
     have A20 := Aside0.mk A200
     clear A200
     by_cases c21 : x6_1.length < 17592186044416
     · rw [if_pos c21] at H
       have LMc21 := Aside0.mk c21
       clear c21
       obtain ⟨y124, hy124⟩ : ∃ y_ : List Int, y_ = (x6_1 ++ [t121]) := ⟨_, rfl⟩
       replace H : (spec_l06With.l0 k1 y124 t118 (wrap64 (x8_1 + 1)) t102 t122 t123 t106) = some (r1, r2) := zH hy124
       have Ny124 := Aside0.mk hy124
       clear hy124
       have H' := Aside0.mk H
       clear H
       have hnb22 := NB114_101.out
       have hnc22 := NB101_114.out
       have hnb23 := NB114_105.out
       have hnc23 := NB105_114.out
       have hcz24_0 := zc BK114.out
       have hfz24_0 := blk_frozen BK114.out 0
       go_wp2_with (first | ((with_reducible refine gate_callee (f := 60) rfl ?_); refine goesL_ (some 27) rfl rfl Try.func60 zk rfl #[.pointer (some ⟨g105, 0, none⟩), .int .i64 t118] rfl zA ?_; (with_reducible refine (spec_l01Next.calls g105 t102 x106001_1 x106002_1 t118 t121 t122 t123 w _ ?side1 ?side2 A20.out).mono ?_); (case side1 => exact zX HI105.out); (case side2 => exact zB); rintro e w25 ⟨rfl, hi, hb, hk⟩; refine ⟨_, rfl, ?_⟩; have n_ := y6 (Kd.R_mono (Kd.R_keep (IsS68.apart (show IsS68 w _ g105 t102 x106001_1 x106002_1 from zX HI105.out) (zR HO_6.out) (by decide)) hk (fun _ h => h.2)) (fun _ h => h.1)) (Kd.R_mono (Kd.R_keep (IsS68.apart (show IsS68 w _ g105 t102 x106001_1 x106002_1 from zX HI105.out) (zR HO_115000.out) (by decide)) hk (fun _ h => h.2)) (fun _ h => h.1)) (KeepBut.blk hk (g' := gb101) (o := .cells #[.slice none 0 0] 26 (0, 0)) (zG BK101.out) NB101_105.out (by simp)) (KeepBut.blk hk (g' := gb114) (o := .cells #[.slice Ao11 t106.length co11] 26 (0, 0)) (zG BK114.out) NB114_105.out (by simp)) (hb) (hi); clear HO_6 HO_115000 BK101 BK114 HB HI105; obtain ⟨HO_6, HO_115000, BK101, BK114, HB, HI105⟩ := n_; (try clear hb); (try clear hb2); (try clear hk); (try clear hi)) | ((with_reducible refine gate_builtin (b := .append) (xs := #[.tmp 24, .tmp 28]) rfl ?_); at_builtin; refine Kd.R_append (Kd.int .i64) (w0 := w) w.heap.size rfl (.tmp 24) (.tmp 28) 24 2 (.int .i64 0) 8 rfl Try.underlying24 info2 rfl (by decide) (by omega) u6 x6_1 t121 [.int .i64 t121] (fun k_ => some k_ ≠ (.slice Ao11 t106.length co11 : Value).ownBlock) (fun _ => False) rfl rfl ?aP (fun _ hk => hk.elim) ?aF ?aO ?aB ?aS ?aL ?_; (case aP => exact rfl); (case aB => exact (zB)); (case aF => exact (fun k_ hk => Kd.fresh' (Kd.R_lt (zR HO_115000.out)) k_ hk)); (case aO => exact (zR HO_6.out)); (case aS => exact (below_size (zB))); (case aL => have := LMc21.out; omega); intro v125 w26 ho hb hg hat; rw [← Ny124.out] at ho; have n_ := y6 (Kd.R_after (ok := (fun _ => True)) (by refine zR ?_; exact Kd.R_mono HO_115000.out (fun _ hk => ⟨trivial, hk⟩)) hg hat) (blk_grown (g := gb101) (o := .cells #[.slice none 0 0] 26 (0, 0)) (zG BK101.out) hg (Kd.R_ne HO_6.out BK101.out (by decide))) (blk_grown (g := gb114) (o := .cells #[.slice Ao11 t106.length co11] 26 (0, 0)) (zG BK114.out) hg (Kd.R_ne HO_6.out BK114.out (by decide))) (IsS68.grown (zX HI105.out) hg (IsS68.own_ne HI105.out HO_6.out (by decide))) (hb) (ho); clear HO_115000 BK101 BK114 HI105 HB HO_6; obtain ⟨HO_115000, BK101, BK114, HI105, HB, HO126⟩ := n_; clear ho hb hg hat))
       go_roundg k1
       case measure => have := HK1.out; omega
       case rel => exact ⟨(y124), (wrap64 (x8_1 + 1)), (t122), (t123), zF, H', ⟨by have := HK1.out; omega⟩, ⟨zR HO126.out⟩, ⟨by refine zR ?_; exact Kd.R_mono HO_115000.out (fun _ hk => hk.2)⟩, ⟨zG BK101.out⟩, ⟨zG BK114.out⟩, ⟨zX HI105.out⟩, ⟨zB⟩⟩
     · rw [if_neg c21] at H
       exact absurd H (by simp)
   · rw [if_neg c19] at H
     have c19b0 : decide (x8_1 < (t106.length : Int)) = false := decide_eq_false c19
     clear c19
     replace H := Option.bind_eq_some_iff.mp H
     obtain ⟨⟨t127, t128, t129⟩, A270, H⟩ := H
     replace H : (if t127 = 0 then ((spec_l01Pick.f t102 t128 t129 (([(-1), 100001, 100000] : List Int))).bind fun bt133 => (if 0 < (x6_1.length : Int) then ((spec_l06Bad.f t102 bt133.2.1 bt133.2.2 t106).bind fun bt137 => (some (bt137.1, (x6_1.set (0 : Int).toNat bt133.1)))) else (none))) else ((spec_l06Bad.f t102 t128 t129 t106).bind fun bt142 => (some (bt142.1, x6_1)))) = some (r1, r2) := H
     have A27 := Aside0.mk A270
     clear A270
     by_cases c28 : t127 = 0
     · rw [if_pos c28] at H
       have c28b0 : (t127 == 0) = true := beq_iff_eq.mpr c28
       have c28b1 : (t127 != 0) = false := bne_eq_false_iff_eq.mpr c28
       clear c28
       obtain ⟨y130, hy130⟩ : ∃ y_ : List Int, y_ = (([(-1), 100001, 100000] : List Int)) := ⟨_, rfl⟩
       replace H : ((spec_l01Pick.f t102 t128 t129 y130).bind fun bt133 => (if 0 < (x6_1.length : Int) then ((spec_l06Bad.f t102 bt133.2.1 bt133.2.2 t106).bind fun bt137 => (some (bt137.1, (x6_1.set (0 : Int).toNat bt133.1)))) else (none))) = some (r1, r2) := zH hy130
       have Ny130 := Aside0.mk hy130
       clear hy130
       replace H := Option.bind_eq_some_iff.mp H
       obtain ⟨⟨t133, t134, t135⟩, A290, H⟩ := H
       replace H : (if 0 < (x6_1.length : Int) then ((spec_l06Bad.f t102 t134 t135 t106).bind fun bt137 => (some (bt137.1, (x6_1.set (0 : Int).toNat t133)))) else (none)) = some (r1, r2) := H
       have A29 := Aside0.mk A290
       clear A290
       by_cases c30 : 0 < (x6_1.length : Int)
       · rw [if_pos c30] at H
         have c30b0 : decide (0 < (x6_1.length : Int)) = true := decide_eq_true c30
         have c30b1 : decide (0 < x6_1.length) = true := decide_eq_true (by omega)
         clear c30
         obtain ⟨y136, hy136⟩ : ∃ y_ : List Int, y_ = (x6_1.set (0 : Int).toNat t133) := ⟨_, rfl⟩
         replace H : ((spec_l06Bad.f t102 t134 t135 t106).bind fun bt137 => (some (bt137.1, y136))) = some (r1, r2) := zH hy136
         have Ny136 := Aside0.mk hy136
         clear hy136
         replace H := Option.bind_eq_some_iff.mp H
         obtain ⟨⟨t137, t140, t141⟩, A320, H⟩ := H
         replace H : (some (t137, y136)) = some (r1, r2) := H
         have A32 := Aside0.mk A320
         clear A320
         simp only [Option.some.injEq, Prod.mk.injEq] at H
         obtain ⟨rfl, rfl⟩ := H
         have hnb33 := NB114_101.out
         have hnc33 := NB101_114.out
         have hnb34 := NB114_105.out
         have hnc34 := NB105_114.out
         have hcz35_0 := zc BK114.out
         have hfz35_0 := blk_frozen BK114.out 0
         go_wp2_with (first | ((with_reducible refine gate_callee (f := 60) rfl ?_); refine goesL_ (some 31) rfl rfl Try.func60 zk rfl #[.pointer (some ⟨g105, 0, none⟩), .int .i64 20] rfl zA ?_; (with_reducible refine (spec_l01Next.calls g105 t102 x106001_1 x106002_1 20 t127 t128 t129 w _ ?side1 ?side2 A27.out).mono ?_); (case side1 => exact zX HI105.out); (case side2 => exact zB); rintro e w36 ⟨rfl, hi, hb, hk⟩; refine ⟨_, rfl, ?_⟩; have n_ := y6 (Kd.R_mono (Kd.R_keep (IsS68.apart (show IsS68 w _ g105 t102 x106001_1 x106002_1 from zX HI105.out) (zR HO_6.out) (by decide)) hk (fun _ h => h.2)) (fun _ h => h.1)) (Kd.R_mono (Kd.R_keep (IsS68.apart (show IsS68 w _ g105 t102 x106001_1 x106002_1 from zX HI105.out) (zR HO_115000.out) (by decide)) hk (fun _ h => h.2)) (fun _ h => h.1)) (KeepBut.blk hk (g' := gb101) (o := .cells #[.slice none 0 0] 26 (0, 0)) (zG BK101.out) NB101_105.out (by simp)) (KeepBut.blk hk (g' := gb114) (o := .cells #[.slice Ao11 t106.length co11] 26 (0, 0)) (zG BK114.out) NB114_105.out (by simp)) (hb) (hi); clear HO_6 HO_115000 BK101 BK114 HB HI105; obtain ⟨HO_6, HO_115000, BK101, BK114, HB, HI105⟩ := n_; (try clear hb); (try clear hb2); (try clear hk); (try clear hi)) | ((with_reducible refine gate_dst (N := 35) rfl ?_); refine Kd.R_lit (Kd.int .i64) _ 2 ?hg (N := 35) ?hd (xs := ([(-1), 100001, 100000] : List Int)) (inner := [.int .i64 (-1), .int .i64 100001, .int .i64 100000]) (ok := fun _ => True) (okp := fun _ => True) ?hr ?hp (fun _ hk => hk) trivial (Below.refl _ _) (Nat.le_refl _) (by simp) ?_; (case hd => rfl); (case hg => rfl); (case hr => first | (go_simp; done) | (go_simp; rfl)); (case hp => exact (Reps.one (show Kd.M (Kd.int .i64) _ _ _ (-1) [.int .i64 (-1)] from rfl) (Reps.one (show Kd.M (Kd.int .i64) _ _ _ 100001 [.int .i64 100001] from rfl) (Reps.one (show Kd.M (Kd.int .i64) _ _ _ 100000 [.int .i64 100000] from rfl) (Reps.none _ _))))); intro v131 w37 ho38 hb hg_ hnew_; clear hg_ hnew_; (first | rw [← Ny130.out] at ho38 | (simp only [Int.reduceToNat] at ho38; rw [← Ny130.out] at ho38)); have n_ := y7 (Kd.R_elder' (zR HO_6.out) (Kd.R_base ho38) hb) (Kd.R_elder' (zR HO_115000.out) (Kd.R_base ho38) hb) (Kd.R_lower (Kd.R_new' (Kd.R_new' ho38 (Kd.R_lt (zR HO_6.out))) (Kd.R_lt (zR HO_115000.out))) (below_size (zB))) (zb BK101.out hb) (zb BK114.out hb) (IsS68.below (zX HI105.out) hb) (below_step (zB) hb); clear HO_6 HO_115000 BK101 BK114 HI105 HB; obtain ⟨HO_6, HO_115000, HO132, BK101, BK114, HI105, HB⟩ := n_; clear hb ho38; obtain ⟨Ao39, co39, eo39⟩ := Kd.R_slice HO132.out; subst eo39) | ((with_reducible refine gate_callee (f := 35) rfl ?_); refine goesL_ (some 36) rfl rfl Try.func35 zk rfl #[.pointer (some ⟨g105, 0, none⟩), .slice Ao39 y130.length co39] rfl zA ?_; (with_reducible refine (spec_l01Pick.calls g105 t102 t128 t129 _ _ y130 t133 t134 t135 w _ ?side1 ?side2 ?side3 ?side4 ?side5 A29.out).mono ?_); (case side1 => exact zX HI105.out); (case side2 => exact zB); (case side3 => exact zC (Kd.R_reads' HO132.out).2.2); (case side4 => exact (Kd.R_reads' HO132.out).2.1); (case side5 => exact far_slice (IsS68.own_ne HI105.out HO132.out (by decide))); rintro e w40 ⟨rfl, hi, hb, hk⟩; refine ⟨_, rfl, ?_⟩; have n_ := y7 (Kd.R_mono (Kd.R_keep (IsS68.apart (show IsS68 w _ g105 t102 t128 t129 from zX HI105.out) (zR HO_6.out) (by decide)) hk (fun _ h => h.2)) (fun _ h => h.1)) (Kd.R_mono (Kd.R_keep (IsS68.apart (show IsS68 w _ g105 t102 t128 t129 from zX HI105.out) (zR HO_115000.out) (by decide)) hk (fun _ h => h.2)) (fun _ h => h.1)) (KeepBut.blk hk (g' := gb101) (o := .cells #[.slice none 0 0] 26 (0, 0)) (zG BK101.out) NB101_105.out (by simp)) (KeepBut.blk hk (g' := gb114) (o := .cells #[.slice Ao11 t106.length co11] 26 (0, 0)) (zG BK114.out) NB114_105.out (by simp)) (Kd.R_mono (Kd.R_keep (IsS68.apart (show IsS68 w _ g105 t102 t128 t129 from zX HI105.out) (zR HO132.out) (by decide)) hk (fun _ h => h.2)) (fun _ h => h.1)) (hb) (hi); clear HO_6 HO_115000 BK101 BK114 HO132 HB HI105; obtain ⟨HO_6, HO_115000, BK101, BK114, HO132, HB, HI105⟩ := n_; (try clear hb); (try clear hb2); (try clear hk); (try clear hi); have p31 : 0 ≤ (0 : Int) := (by omega); have q31 : (0 : Int) < ((x6_1.length : Int) : Int) := zD; have qi31 : (0 < x6_1.length) = True := eq_true (by omega); obtain ⟨go31, co31, eo31, gb31, gl31, cl31, HG31⟩ := Kd.R_form HO_6.out (by omega); (first | cases eo31 | (injection eo31 with ea_ en_ ec_; (first | subst ea_ | (injection ea_ with ea_; subst ea_)); subst ec_; clear en_)); have GB31 := Aside0.mk gb31; have GG31 := Aside0.mk HG31; clear gb31 gl31 HG31; obtain ⟨hx31_0, hf31_0⟩ := Kd.R_celln 0 HO_6.out (0 : Int) p31 q31; (try rw [show ((0 : Int)).toNat = 0 from rfl] at hx31_0); (try simp only [Nat.reduceMul, Nat.zero_mul, Nat.zero_add, Nat.reduceAdd] at hx31_0); (try rw [show ((0 : Int)).toNat = 0 from rfl] at hf31_0); (try simp only [Nat.reduceMul, Nat.zero_mul, Nat.zero_add, Nat.reduceAdd] at hf31_0); replace p31 := eq_true p31; replace q31 := eq_true q31; obtain ⟨hy41_, hz41_⟩ := Kd.R_celln 0 HO_6.out (0 : Int) (by omega) (zD); (try simp only [Int.reduceToNat, Int.toNat_zero, Int.toNat_ofNat, Nat.reduceMul, Nat.zero_mul, Nat.zero_add] at hy41_ hz41_); (try rw [show ((0 : Int)).toNat = 0 from rfl] at hy41_); (try rw [show ((0 : Int)).toNat = 0 from rfl] at hz41_); have HP41 := Kd.R_putg HO_6.out (0 : Int) t133) | ((with_reducible refine gate_store (t := 2) (p := 37) rfl ?_); refine store_event (t := 2) (p := 37) (v := ?vo_w42) (w1 := (w40.setCell ⟨go31, (0 : Int).toNat, none⟩ (.int .i64 t133))) ?hg ?ho ?hn ?hr ?_; (case ho => rfl); (case hg => rfl); (case hn => rfl); (case hr => first | (go_simp; done) | (go_simp; rfl)); intro w42 hw; have hg : w40.grownBy w42 (some go31) := (by rw [hw]; exact HP41.2); have hp_ : Kd.R (Kd.int .i64) 2 w42 w.heap.size (fun k_ => some k_ ≠ (.slice Ao11 t106.length co11 : Value).ownBlock ∧ some k_ ≠ (.slice Ao39 y130.length co39 : Value).ownBlock) (.slice (some ⟨go31, 0, none⟩) x6_1.length co31) y136 := (by rw [hw, Ny136.out]; exact HP41.1); clear HP41; have n_ := y7 (hp_) (Kd.R_after (v := (.slice (some ⟨go31, 0, none⟩) x6_1.length co31)) (v1 := (.slice (some ⟨go31, 0, none⟩) x6_1.length co31)) (ok := (fun k_ => some k_ ≠ (.slice Ao39 y130.length co39 : Value).ownBlock)) (by refine zR ?_; exact Kd.R_mono HO_115000.out (fun _ hk => ⟨hk.2, hk.1⟩)) hg (.inl rfl)) (blk_grown (g := gb101) (o := .cells #[.slice none 0 0] 26 (0, 0)) (zG BK101.out) hg (Kd.R_ne HO_6.out BK101.out (by decide))) (blk_grown (g := gb114) (o := .cells #[.slice Ao11 t106.length co11] 26 (0, 0)) (zG BK114.out) hg (Kd.R_ne HO_6.out BK114.out (by decide))) (IsS68.grown (zX HI105.out) hg (IsS68.own_ne HI105.out HO_6.out (by decide))) (Kd.R_after (v := (.slice (some ⟨go31, 0, none⟩) x6_1.length co31)) (v1 := (.slice (some ⟨go31, 0, none⟩) x6_1.length co31)) (ok := (fun k_ => some k_ ≠ (.slice Ao11 t106.length co11 : Value).ownBlock)) (by refine zR ?_; exact Kd.R_mono HO132.out (fun _ hk => ⟨hk.2, hk.1.2⟩)) hg (.inl rfl)) ((by rw [hw]; exact below_set (HB.out) GB31.out : Below w.heap.size w w42)); clear HO_6 HO_115000 BK101 BK114 HI105 HO132 HB; obtain ⟨HO_6, HO_115000, BK101, BK114, HI105, HO132, HB⟩ := n_; clear hg hw hp_; have hcz43_0 := zc BK114.out; have hfz43_0 := blk_frozen BK114.out 0) | ((with_reducible refine gate_callee (f := 61) rfl ?_); refine goesL_ (some 40) rfl rfl Try.func61 zk rfl #[.pointer (some ⟨g105, 0, none⟩), .agg #[.slice Ao11 t106.length co11]] rfl zA ?_; (with_reducible refine (spec_l06Bad.calls g105 t102 t134 t135 (fun k_ => some k_ = (.slice Ao11 t106.length co11 : Value).ownBlock) (.slice Ao11 t106.length co11) t106 t137 t140 t141 w _ ?side1 ?side2 ?side3 A32.out).mono ?_); (case side1 => exact zX HI105.out); (case side2 => exact zB); (case side3 => exact Kd.R_tight rfl HO_115000.out); rintro e w44 ⟨v138, rfl, ho0, hi, hb, hkp⟩; refine ⟨_, rfl, ?_⟩; have n_ := y7 (Kd.R_mono (ok' := fun k_ => some k_ ≠ (.slice Ao39 y130.length co39 : Value).ownBlock ∧ some k_ ≠ (v138 : Value).ownBlock) (Kd.R_keptB ((IsS68.apart HI105.out HO_6.out (by decide))) hkp (fun k_ hk_ hs_ => Or.elim hs_ (fun hs_ => (hk_.1.1) hs_) (fun e_ => (hk_.2) e_))) (fun k_ hk_ => ⟨hk_.1.1.2, fun e_ => Or.elim (ho0.1 k_ e_.symm) (fun hs_ => by first | exact hk_.2.1 hs_ | exact hk_.2.1 (.inl hs_)) (fun hn_ => Nat.not_le.2 hk_.2.2 hn_)⟩)) (blk_kept (zG BK101.out) hkp (fun hs_ => Or.elim hs_ (fun hs_ => (fun e_ => (Kd.R_ne HO_115000.out BK101.out (by decide)) e_) hs_) (fun e_ => NB101_105.out e_))) (blk_kept (zG BK114.out) hkp (fun hs_ => Or.elim hs_ (fun hs_ => (fun e_ => (Kd.R_ne HO_115000.out BK114.out (by decide)) e_) hs_) (fun e_ => NB114_105.out e_))) (hi) (Kd.R_mono (ok' := fun k_ => some k_ ≠ (.slice (some ⟨go31, 0, none⟩) x6_1.length co31 : Value).ownBlock ∧ some k_ ≠ (v138 : Value).ownBlock) (Kd.R_keptB ((IsS68.apart HI105.out HO132.out (by decide))) hkp (fun k_ hk_ hs_ => Or.elim hs_ (fun hs_ => (hk_.1.1) hs_) (fun e_ => (hk_.2) e_))) (fun k_ hk_ => ⟨hk_.1.1.2, fun e_ => Or.elim (ho0.1 k_ e_.symm) (fun hs_ => by first | exact hk_.2.1 hs_ | exact hk_.2.1 (.inl hs_)) (fun hn_ => Nat.not_le.2 hk_.2.2 hn_)⟩)) (Kd.R_mono (ok' := fun k_ => some k_ ≠ (.slice (some ⟨go31, 0, none⟩) x6_1.length co31 : Value).ownBlock ∧ some k_ ≠ (.slice Ao39 y130.length co39 : Value).ownBlock) ho0 (fun k_ hk_ => ⟨Or.elim hk_ (fun hs_ => fun e_ => ((((IsS68.apart HI105.out HO_6.out (by decide))).1 k_ e_.symm).1.1) hs_) (fun hn_ => (Kd.fresh' (Kd.R_lt (zR HO_6.out)) k_ hn_)), Or.elim hk_ (fun hs_ => fun e_ => ((((IsS68.apart HI105.out HO132.out (by decide))).1 k_ e_.symm).1.1) hs_) (fun hn_ => (Kd.fresh' (Kd.R_lt (zR HO132.out)) k_ hn_))⟩)) (hb); clear HO_6 BK101 BK114 HI105 HO132 HB HO_115000; obtain ⟨HO_6, BK101, BK114, HI105, HO132, HO139, HB⟩ := n_; (try clear hb); (try clear hkp); (try clear ho0); obtain ⟨Ao45, co45, eo45⟩ := Kd.R_slice HO139.out; subst eo45; have hnb46 := NB101_105.out; have hnc46 := NB105_101.out; have hcz47_0 := zc BK101.out; have hfz47_0 := blk_frozen BK101.out 0))
         refine bodyPost_ret (results_ct rfl _ _ gb101 26 #[.slice Ao45 t137.length co45] (0, 0) _ rfl (by refine zG ?_; refine blk_put (cs := #[.slice none 0 0]) ?_ 0 _ rfl; refine zG ?_; exact BK101.out) Try.underlying26 rfl zk) rfl ?_
         exact ⟨_, _, zE, by refine zR ?_; exact Kd.R_mono (Kd.R_far (p := ⟨gb101, 0, none⟩) (Kd.R_types HO139.out BK101.out (by decide)) (fun _ hk => hk.2) (.slice Ao45 t137.length co45)) (fun _ hk => hk.1.1), by refine zR ?_; exact Kd.R_mono (Kd.R_far (p := ⟨gb101, 0, none⟩) (Kd.R_types HO_6.out BK101.out (by decide)) (fun _ hk => hk.2) (.slice Ao45 t137.length co45)) (fun _ hk => hk.1.2), zB⟩
       · rw [if_neg c30] at H
         exact absurd H (by simp)
     · rw [if_neg c28] at H
       have c28b0 : (t127 == 0) = false := beq_eq_false_iff_ne.mpr c28
       have c28b1 : (t127 != 0) = true := bne_iff_ne.mpr c28
       replace H := Option.bind_eq_some_iff.mp H
       obtain ⟨⟨t142, t145, t146⟩, A480, H⟩ := H
       replace H : (some (t142, x6_1)) = some (r1, r2) := H
       have A48 := Aside0.mk A480
       clear A480
       simp only [Option.some.injEq, Prod.mk.injEq] at H
       obtain ⟨rfl, rfl⟩ := H
       have hnb49 := NB114_101.out
       have hnc49 := NB101_114.out
       have hnb50 := NB114_105.out
       have hnc50 := NB105_114.out
       have hcz51_0 := zc BK114.out
       have hfz51_0 := blk_frozen BK114.out 0
       go_wp2_with (first | ((with_reducible refine gate_callee (f := 60) rfl ?_); refine goesL_ (some 31) rfl rfl Try.func60 zk rfl #[.pointer (some ⟨g105, 0, none⟩), .int .i64 20] rfl zA ?_; (with_reducible refine (spec_l01Next.calls g105 t102 x106001_1 x106002_1 20 t127 t128 t129 w _ ?side1 ?side2 A27.out).mono ?_); (case side1 => exact zX HI105.out); (case side2 => exact zB); rintro e w52 ⟨rfl, hi, hb, hk⟩; refine ⟨_, rfl, ?_⟩; have n_ := y6 (Kd.R_mono (Kd.R_keep (IsS68.apart (show IsS68 w _ g105 t102 x106001_1 x106002_1 from zX HI105.out) (zR HO_6.out) (by decide)) hk (fun _ h => h.2)) (fun _ h => h.1)) (Kd.R_mono (Kd.R_keep (IsS68.apart (show IsS68 w _ g105 t102 x106001_1 x106002_1 from zX HI105.out) (zR HO_115000.out) (by decide)) hk (fun _ h => h.2)) (fun _ h => h.1)) (KeepBut.blk hk (g' := gb101) (o := .cells #[.slice none 0 0] 26 (0, 0)) (zG BK101.out) NB101_105.out (by simp)) (KeepBut.blk hk (g' := gb114) (o := .cells #[.slice Ao11 t106.length co11] 26 (0, 0)) (zG BK114.out) NB114_105.out (by simp)) (hb) (hi); clear HO_6 HO_115000 BK101 BK114 HB HI105; obtain ⟨HO_6, HO_115000, BK101, BK114, HB, HI105⟩ := n_; (try clear hb); (try clear hb2); (try clear hk); (try clear hi); have hcz53_0 := zc BK114.out; have hfz53_0 := blk_frozen BK114.out 0) | ((with_reducible refine gate_callee (f := 61) rfl ?_); refine goesL_ (some 40) rfl rfl Try.func61 zk rfl #[.pointer (some ⟨g105, 0, none⟩), .agg #[.slice Ao11 t106.length co11]] rfl zA ?_; (with_reducible refine (spec_l06Bad.calls g105 t102 t128 t129 (fun k_ => some k_ = (.slice Ao11 t106.length co11 : Value).ownBlock) (.slice Ao11 t106.length co11) t106 t142 t145 t146 w _ ?side1 ?side2 ?side3 A48.out).mono ?_); (case side1 => exact zX HI105.out); (case side2 => exact zB); (case side3 => exact Kd.R_tight rfl HO_115000.out); rintro e w54 ⟨v143, rfl, ho0, hi, hb, hkp⟩; refine ⟨_, rfl, ?_⟩; have n_ := y6 (Kd.R_mono (ok' := fun k_ => some k_ ≠ (v143 : Value).ownBlock) (Kd.R_keptB ((IsS68.apart HI105.out HO_6.out (by decide))) hkp (fun k_ hk_ hs_ => Or.elim hs_ (fun hs_ => (hk_.1) hs_) (fun e_ => (hk_.2) e_))) (fun k_ hk_ => fun e_ => Or.elim (ho0.1 k_ e_.symm) (fun hs_ => by first | exact hk_.2.1 hs_ | exact hk_.2.1 (.inl hs_)) (fun hn_ => Nat.not_le.2 hk_.2.2 hn_))) (blk_kept (zG BK101.out) hkp (fun hs_ => Or.elim hs_ (fun hs_ => (fun e_ => (Kd.R_ne HO_115000.out BK101.out (by decide)) e_) hs_) (fun e_ => NB101_105.out e_))) (blk_kept (zG BK114.out) hkp (fun hs_ => Or.elim hs_ (fun hs_ => (fun e_ => (Kd.R_ne HO_115000.out BK114.out (by decide)) e_) hs_) (fun e_ => NB114_105.out e_))) (hi) (Kd.R_mono (ok' := fun k_ => some k_ ≠ (u6 : Value).ownBlock) ho0 (fun k_ hk_ => Or.elim hk_ (fun hs_ => fun e_ => ((((IsS68.apart HI105.out HO_6.out (by decide))).1 k_ e_.symm).1) hs_) (fun hn_ => (Kd.fresh' (Kd.R_lt (zR HO_6.out)) k_ hn_)))) (hb); clear HO_6 BK101 BK114 HI105 HB HO_115000; obtain ⟨HO_6, BK101, BK114, HI105, HO144, HB⟩ := n_; (try clear hb); (try clear hkp); (try clear ho0); obtain ⟨Ao55, co55, eo55⟩ := Kd.R_slice HO144.out; subst eo55; have hnb56 := NB101_105.out; have hnc56 := NB105_101.out; have hcz57_0 := zc BK101.out; have hfz57_0 := blk_frozen BK101.out 0))
       refine bodyPost_ret (results_ct rfl _ _ gb101 26 #[.slice Ao55 t142.length co55] (0, 0) _ rfl (by refine zG ?_; refine blk_put (cs := #[.slice none 0 0]) ?_ 0 _ rfl; refine zG ?_; exact BK101.out) Try.underlying26 rfl zk) rfl ?_
       exact ⟨_, _, zE, by refine zR ?_; exact Kd.R_mono (Kd.R_far (p := ⟨gb101, 0, none⟩) (Kd.R_types HO144.out BK101.out (by decide)) (fun _ hk => hk.2) (.slice Ao55 t142.length co55)) (fun _ hk => hk.1), by refine zR ?_; exact Kd.R_mono (Kd.R_far (p := ⟨gb101, 0, none⟩) (Kd.R_types HO_6.out BK101.out (by decide)) (fun _ hk => hk.2) (.slice Ao55 t142.length co55)) (fun _ hk => hk.1), zB⟩
end Go.Proofs.Ytgmciimgmnnhmaa.P
end
section
namespace Go.Proofs.Ytgmciimgmnnhmaa.P
open Go.RowKit Go.Proofs.YtgmciimgmnnhmaaW.PrintWords Go.Proofs.YtgmciimgmnnhmaaW.PrintLast Go.Proofs.YtgmciimgmnnhmaaW.PrintMore
attribute [local go_sem] max2_int min2_int max_two min_two max_three min_three max_four min_four   -- for this text's walks alone
set_option linter.unusedVariables false
set_option linter.unusedSimpArgs false
def spec_DrawGrowDays.f (k : Nat) (l0 : List Int) : Option (List Int × List Int × Int) := (spec_l01From.f k l0).bind fun bt102 => ((spec_l06With.f k l0).bind fun bt106 => ((spec_l01Pick.f bt102.1 bt102.2.1 bt102.2.2 (([5, 200] : List Int))).bind fun bt116 => ((spec_l01Near.f bt102.1 bt116.2.1 bt116.2.2 bt116.1).bind fun bt119 => (some (bt106.1, bt106.2, bt119.1)))))
theorem spec_DrawGrowDays.mono : ∀ a0 k, LeO (spec_DrawGrowDays.f k a0) (spec_DrawGrowDays.f (k + 1) a0) := by
  intro a0 k
  unfold spec_DrawGrowDays.f
  repeat' first | (with_reducible exact spec_l01From.mono _ _) | (with_reducible exact spec_l06With.mono _ _) | (with_reducible exact LeO.refl _) | (with_reducible exact LeO.none _) | (with_reducible refine LeO.ite ?_ ?_) | (with_reducible refine LeO.bind ?_ (fun _ => ?_)) | exact spec_l01From.mono _ _ | exact spec_l06With.mono _ _ | exact LeO.none _ | refine LeO.ite ?_ ?_ | refine LeO.bind ?_ (fun _ => ?_)
def spec_DrawGrowDays.T3 : Bool × List (List Nat × List Nat) := (true, [([], []), ([], []), ([], []), ([], []), ([], []), ([3, 4], [3, 4]), ([2, 5, 5], [2, 5]), ([0, 6, 0], [0]), ([1, 7, 0, 1, 7], [1]), ([6, 8, 0, 1, 2, 3, 4, 5, 6, 7, 8], [6])])
def spec_DrawGrowDays.B3 : List Nat := [0, 0, 0, 0, 0, 24, 60, 125, 255, 511]
theorem spec_DrawGrowDays.tab3 : rtab .any (opsOf Try.f12 3) = spec_DrawGrowDays.T3 := by kernel_rfl
theorem spec_DrawGrowDays.bits3 : waitsOk spec_DrawGrowDays.T3.2 spec_DrawGrowDays.B3 = true := by kernel_rfl
set_option maxHeartbeats 8000000 in
set_option maxRecDepth 100000 in
theorem spec_DrawGrowDays.calls (k : Nat) (A0 : Option Addr) (c0 : Nat) (l0 : List Int) (r1 : List Int) (r2 : List Int) (r3 : Int) (w : World) (hr0 : Kd.C (Kd.int .u8) w A0 l0.length l0) (hc0 : l0.length ≤ c0) (h : spec_DrawGrowDays.f k l0 = some (r1, r2, r3)) :
    Calls Try.prog 12 #[.slice A0 l0.length c0] w fun e w' => ∃ v0_ v1_ : Value, e = .returned (.tuple #[.agg #[v0_], v1_, .int .i64 r3]) ∧ Kd.R (Kd.int .i64) 2 w' w.heap.size (fun k_ => some k_ ≠ (v1_ : Value).ownBlock) v0_ r1 ∧ Kd.R (Kd.int .i64) 2 w' w.heap.size (fun k_ => some k_ ≠ (v0_ : Value).ownBlock) v1_ r2 ∧ Below w.heap.size w w' := by
 have hu26 := Try.underlying26
 have HR0 := Aside0.mk hr0
 have HC0 := Aside0.mk hc0
 clear hr0 hc0
 have HB := Aside0.mk (Below.refl w.heap.size w)
 have H : ((spec_l01From.f k l0).bind fun bt102 => ((spec_l06With.f k l0).bind fun bt106 => ((spec_l01Pick.f bt102.1 bt102.2.1 bt102.2.2 (([5, 200] : List Int))).bind fun bt116 => ((spec_l01Near.f bt102.1 bt116.2.1 bt116.2.2 bt116.1).bind fun bt119 => (some (bt106.1, bt106.2, bt119.1)))))) = some (r1, r2, r3) := h
 clear h
 replace H := Option.bind_eq_some_iff.mp H
 obtain ⟨⟨t102, t103, t104⟩, A20, H⟩ := H
 replace H : ((spec_l06With.f k l0).bind fun bt106 => ((spec_l01Pick.f t102 t103 t104 (([5, 200] : List Int))).bind fun bt116 => ((spec_l01Near.f t102 bt116.2.1 bt116.2.2 bt116.1).bind fun bt119 => (some (bt106.1, bt106.2, bt119.1))))) = some (r1, r2, r3) := H
 have A2 := Aside0.mk A20
 clear A20
 replace H := Option.bind_eq_some_iff.mp H
 obtain ⟨⟨t106, t109⟩, A30, H⟩ := H
 replace H : ((spec_l01Pick.f t102 t103 t104 (([5, 200] : List Int))).bind fun bt116 => ((spec_l01Near.f t102 bt116.2.1 bt116.2.2 bt116.1).bind fun bt119 => (some (t106, t109, bt119.1)))) = some (r1, r2, r3) := H
 have A3 := Aside0.mk A30
 clear A30
 obtain ⟨y113, hy113⟩ : ∃ y_ : List Int, y_ = (([5, 200] : List Int)) := ⟨_, rfl⟩
 replace H : ((spec_l01Pick.f t102 t103 t104 y113).bind fun bt116 => ((spec_l01Near.f t102 bt116.2.1 bt116.2.2 bt116.1).bind fun bt119 => (some (t106, t109, bt119.1)))) = some (r1, r2, r3) := zH hy113
 have Ny113 := Aside0.mk hy113
 clear hy113
 replace H := Option.bind_eq_some_iff.mp H
 obtain ⟨⟨t116, t117, t118⟩, A40, H⟩ := H
 replace H : ((spec_l01Near.f t102 t117 t118 t116).bind fun bt119 => (some (t106, t109, bt119.1))) = some (r1, r2, r3) := H
 have A4 := Aside0.mk A40
 clear A40
 replace H := Option.bind_eq_some_iff.mp H
 obtain ⟨⟨t119, t120, t121⟩, A50, H⟩ := H
 replace H : (some (t106, t109, t119)) = some (r1, r2, r3) := H
 have A5 := Aside0.mk A50
 clear A50
 simp only [Option.some.injEq, Prod.mk.injEq] at H
 obtain ⟨rfl, rfl, rfl⟩ := H
 go_enter Try.func12, Try.ntmps12
 try go_wp2_with (first | ((with_reducible refine gate_dst (N := 2) rfl ?_); refine box_event zr (N := 2) zr (cs := #[.slice none 0 0]) (t := 26) zg ?_; intro gb101 hg w6 hbox hb; have n_ := y4 (below_step (zB) hb) (hbox) ((zS hg : w.heap.size ≤ gb101)) ((zS hg : w.heap.size ≤ gb101)); clear HB; obtain ⟨HB, BK101, GW101, GE101⟩ := n_; clear hb hbox hg) | ((with_reducible refine gate_callee (f := 33) rfl ?_); refine goesL_ (some 9) rfl rfl Try.func33 zk rfl #[.slice A0 l0.length c0] rfl zA ?_; (with_reducible refine (spec_l01From.calls k _ _ l0 t102 t103 t104 w _ ?side1 ?side2 ?side3 A2.out).mono ?_); (case side1 => exact zB); (case side2 => exact HR0.out); (case side3 => exact HC0.out); rintro e w7 ⟨g105, rfl, hi, hb, hb2⟩; refine ⟨_, rfl, ?_⟩; have n_ := y5 (zb BK101.out hb2) (hb) (hi) (IsS68.ne_blk hi (zb BK101.out hb2) (by decide)) (Ne.symm (IsS68.ne_blk hi (zb BK101.out hb2) (by decide))); clear BK101 HB; obtain ⟨BK101, HB, HI105, NB105_101, NB101_105⟩ := n_; (try clear hb); (try clear hb2); (try clear hk); (try clear hi)) | ((with_reducible refine gate_callee (f := 42) rfl ?_); refine goesL_ (some 12) rfl rfl Try.func42 zk rfl #[.slice A0 l0.length c0] rfl zA ?_; (with_reducible refine (spec_l06With.calls k _ _ l0 t106 t109 _ ?side1 ?side2 A3.out).mono ?_); (case side1 => exact zC (Kd.C_below HR0.out HB.out)); (case side2 => exact HC0.out); rintro e w8 ⟨v107, v110, rfl, ho0, ho1, hb⟩; refine ⟨_, rfl, ?_⟩; have n_ := y5 (Kd.R_lower ho0 (below_size (zB))) (Kd.R_lower ho1 (below_size (zB))) (zb BK101.out hb) (IsS68.below (zX HI105.out) hb) (below_step (zB) hb); clear BK101 HI105 HB; obtain ⟨HO108, HO111, BK101, HI105, HB⟩ := n_; (try clear hb); (try clear hb2); (try clear hk); (try clear hi); (try clear ho0); (try clear ho1)) | ((with_reducible refine gate_dst (N := 6) rfl ?_); refine box_event zr (N := 6) zr (cs := #[.slice none 0 0]) (t := 26) zg ?_; intro gb112 hg w9 hbox hb; have n_ := y12 (Kd.R_below (zR HO108.out) hb) (Kd.R_below (zR HO111.out) hb) (zb BK101.out hb) (IsS68.below (zX HI105.out) hb) (below_step (zB) hb) (hbox) ((zS hg : w.heap.size ≤ gb112)) ((zS hg : w.heap.size ≤ gb112)) ((zL hg BK101.out : gb101 ≠ gb112)) ((zM hg BK101.out : gb112 ≠ gb101)) ((by rw [hg]; exact Nat.ne_of_lt (IsS68.lt (show IsS68 w _ g105 t102 t103 t104 from zX HI105.out)) : g105 ≠ gb112)) ((by rw [hg]; exact Nat.ne_of_gt (IsS68.lt (show IsS68 w _ g105 t102 t103 t104 from zX HI105.out)) : gb112 ≠ g105)); clear HO108 HO111 BK101 HI105 HB; obtain ⟨HO108, HO111, BK101, HI105, HB, BK112, GW112, GE112, NB101_112, NB112_101, NB105_112, NB112_105⟩ := n_; clear hb hbox hg; obtain ⟨Ao10, co10, eo10⟩ := Kd.R_slice HO108.out; subst eo10; have hnb11 := NB112_101.out; have hnc11 := NB101_112.out; have hnb12 := NB112_105.out; have hnc12 := NB105_112.out; have hcz13_0 := zc BK112.out; have hfz13_0 := blk_frozen BK112.out 0))
 have n0_ : Aside0 (Kd.R (Kd.int .i64) 2 (w9.setCell ⟨gb112, 0, none⟩ (.slice Ao10 t106.length co10)) w.heap.size (fun k_ => some k_ ≠ (v110 : Value).ownBlock) (.slice Ao10 t106.length co10) t106) := ⟨by refine zR ?_; exact Kd.R_mono (Kd.R_far (p := ⟨gb112, 0, none⟩) (Kd.R_types HO108.out BK112.out (by decide)) (fun _ hk => hk.2) (.slice Ao10 t106.length co10)) (fun _ hk => hk.1)⟩
 have n1_ : Aside0 (Kd.R (Kd.int .i64) 2 (w9.setCell ⟨gb112, 0, none⟩ (.slice Ao10 t106.length co10)) w.heap.size (fun k_ => some k_ ≠ (.slice Ao10 t106.length co10 : Value).ownBlock) v110 t109) := ⟨by refine zR ?_; exact Kd.R_mono (Kd.R_far (p := ⟨gb112, 0, none⟩) (Kd.R_types HO111.out BK112.out (by decide)) (fun _ hk => hk.2) (.slice Ao10 t106.length co10)) (fun _ hk => hk.1)⟩
 have n2_ : Aside0 ((w9.setCell ⟨gb112, 0, none⟩ (.slice Ao10 t106.length co10)).heap[gb101]? = some (.cells #[.slice none 0 0] 26 (0, 0))) := ⟨by refine zG ?_; refine blk_far ?_ NB101_112.out _; refine zG ?_; exact BK101.out⟩
 have n3_ : Aside0 ((w9.setCell ⟨gb112, 0, none⟩ (.slice Ao10 t106.length co10)).heap[gb112]? = some (.cells #[.slice Ao10 t106.length co10] 26 (0, 0))) := ⟨by refine zG ?_; refine blk_put (cs := #[.slice none 0 0]) ?_ 0 _ rfl; refine zG ?_; exact BK112.out⟩
 have n4_ : Aside0 (IsS68 w (w9.setCell ⟨gb112, 0, none⟩ (.slice Ao10 t106.length co10)) g105 t102 t103 t104) := ⟨zX HI105.out⟩
 have n5_ : Aside0 (Below w.heap.size w (w9.setCell ⟨gb112, 0, none⟩ (.slice Ao10 t106.length co10))) := ⟨zB⟩
 (try clear HO108)
 (try clear HO111)
 (try clear BK101)
 (try clear BK112)
 (try clear HI105)
 (try clear HB)
 generalize (w9.setCell ⟨gb112, 0, none⟩ (.slice Ao10 t106.length co10)) = w14 at n0_ n1_ n2_ n3_ n4_ n5_ ⊢
 have HO108 := n0_
 have HO111 := n1_
 have BK101 := n2_
 have BK112 := n3_
 have HI105 := n4_
 have HB := n5_
 clear n0_ n1_ n2_ n3_ n4_ n5_
 have n_ := y6 (Kd.R_drew HO108.out) (Kd.R_drew HO111.out) (blk_drew BK101.out) (blk_drew BK112.out) (IsS68.drew HI105.out) (below_drew1 HB.out)
 clear HO108 HO111 BK101 BK112 HI105 HB
 obtain ⟨HO108, HO111, BK101, BK112, HI105, HB⟩ := n_
 refine start_ (n := 10) (S := fun w' => w'.cell? ⟨gb112, 0, none⟩ = some (.slice Ao10 t106.length co10)) (ds := []) #[false,false,false,false,false,false,false,false,false,false] zk rfl rfl ((blk_cell BK112.out 0).trans rfl) (fun hHeld => ?_); refine with_tabW spec_DrawGrowDays.tab3 spec_DrawGrowDays.bits3 (fun HT_ HW_ => ?_)
 generalize w14.drew = w15 at HO108 HO111 BK101 BK112 HI105 HB hHeld ⊢
 refine pure_ (i := 1) (N := some 16) (v := ?_) (a' := ?_) #[false,true,false,false,false,false,false,false,false,false] rfl rfl (any_of HT_.out zk) (fun _ _ _ h => h) (Or.inl ⟨by rfl, ?_⟩) ?_ ?_
 rotate_left; exact zp; rotate_left; exact zq
 refine pure_ (i := 2) (N := some 17) (v := ?_) (a' := ?_) #[false,true,true,false,false,false,false,false,false,false] rfl rfl (any_of HT_.out zk) (fun _ _ _ h => h) (Or.inl ⟨by rfl, ?_⟩) ?_ ?_
 rotate_left; exact zp; rotate_left; exact zq
 refine pure_ (i := 3) (N := some 18) (v := ?_) (a' := ?_) #[false,true,true,true,false,false,false,false,false,false] rfl rfl (any_of HT_.out zk) (fun _ _ _ h => h) (Or.inl ⟨by rfl, ?_⟩) ?_ ?_
 rotate_left; exact zp; rotate_left; exact zq
 refine take_ (i := 0) (N := some 15) (v := ?_) (a' := ?_) #[true,true,true,true,false,false,false,false,false,false] rfl rfl (take_ofW HT_.out HW_.out zk) (fun _ _ _ h => h) (Or.inl ⟨by rfl, ?_⟩) hHeld ?_ ?_
 rotate_left
 ·
  intro w' s0
  go_simp
  with_reducible rfl
 rotate_left
 ·
  simp only [Act.put, List.setIfInBounds_toArray, List.set_cons_zero, List.set_cons_succ, i64_w, i32_w]
  rfl
 refine one_ (i := 4) (N := some 19) #[true,true,true,true,true,false,false,false,false,false] rfl rfl (one_of HT_.out zk) (by decide) (fun K hK => ?_)
 refine Kd.R_lit_step (Kd.int .i64) _ 2 ?hg (N := 19) ?hd (xs := ([5, 200] : List Int)) (inner := [.int .i64 5, .int .i64 200]) (ok := fun _ => True) (okp := fun _ => True) ?hr ?hp (fun _ hk => hk) trivial (Below.refl _ _) (Nat.le_refl _) (by simp) ?_; (case hd => rfl); (case hg => rfl); (case hr => first | (go_simp; done) | (go_simp; rfl)); (case hp => exact (Reps.one (show Kd.M (Kd.int .i64) _ _ _ 5 [.int .i64 5] from rfl) (Reps.one (show Kd.M (Kd.int .i64) _ _ _ 200 [.int .i64 200] from rfl) (Reps.none _ _))))
 intro v114 w16 ho17 hb hg_ hnew_
 clear hg_ hnew_
 (first | rw [← Ny113.out] at ho17 | (simp only [Int.reduceToNat] at ho17; rw [← Ny113.out] at ho17))
 have n_ := y7 (Kd.R_elder' (zR HO108.out) (Kd.R_base ho17) hb) (Kd.R_elder' (zR HO111.out) (Kd.R_base ho17) hb) (Kd.R_lower (Kd.R_new' (Kd.R_new' ho17 (Kd.R_lt (zR HO108.out))) (Kd.R_lt (zR HO111.out))) (below_size (zB))) (zb BK101.out hb) (IsS68.below (zX HI105.out) hb) (zb BK112.out hb) (below_step (zB) hb)
 clear HO108 HO111 BK101 HI105 BK112 HB
 obtain ⟨HO108, HO111, HO115, BK101, HI105, BK112, HB⟩ := n_
 clear hb ho17
 obtain ⟨Ao18, co18, eo18⟩ := Kd.R_slice HO115.out
 (first | subst eo18 | (injection eo18 with f1_ f2_ f3_; have f4_ := f1_.symm; have f5_ := f3_.symm; clear f1_ f2_ f3_; subst f4_; subst f5_))
 refine hK.out _ _ ((blk_cell BK112.out 0).trans rfl) (fun hHeld => ?_)
 clear hK K
 refine norm_ (a' := ?_) ?_ ?_
 rotate_left
 ·
  show Act.put _ (some 19) _ = _
  simp only [Act.put, List.setIfInBounds_toArray, List.set_cons_zero, List.set_cons_succ, i64_w, i32_w]
  rfl
 refine one_ (i := 5) (N := some 20) #[true,true,true,true,true,true,false,false,false,false] rfl rfl (one_of HT_.out zk) (by decide) (fun K hK => ?_)
 refine goes_ Try.func35 zk rfl #[.pointer (some ⟨g105, 0, none⟩), .slice Ao18 y113.length co18] (by rfl) rfl rfl zA ?_
 with_reducible refine (spec_l01Pick.calls g105 t102 t103 t104 _ _ y113 t116 t117 t118 w _ ?side1 ?side2 ?side3 ?side4 ?side5 A4.out).mono ?_
 (case side1 => exact zX HI105.out)
 (case side2 => exact zB)
 (case side3 => exact zC (Kd.R_reads' HO115.out).2.2)
 (case side4 => exact (Kd.R_reads' HO115.out).2.1)
 (case side5 => exact far_slice (IsS68.own_ne HI105.out HO115.out (by decide)))
 rintro e w19 ⟨rfl, hi, hb, hk⟩
 refine ⟨_, rfl, ?_⟩
 have n_ := y7 (KeepBut.blk hk (g' := gb101) (o := .cells #[.slice none 0 0] 26 (0, 0)) (zG BK101.out) NB101_105.out (by simp)) (Kd.R_mono (Kd.R_keep (IsS68.apart (show IsS68 w _ g105 t102 t103 t104 from zX HI105.out) (zR HO108.out) (by decide)) hk (fun _ h => h.2)) (fun _ h => h.1)) (Kd.R_mono (Kd.R_keep (IsS68.apart (show IsS68 w _ g105 t102 t103 t104 from zX HI105.out) (zR HO111.out) (by decide)) hk (fun _ h => h.2)) (fun _ h => h.1)) (KeepBut.blk hk (g' := gb112) (o := .cells #[.slice Ao10 t106.length co10] 26 (0, 0)) (zG BK112.out) NB112_105.out (by simp)) (Kd.R_mono (Kd.R_keep (IsS68.apart (show IsS68 w _ g105 t102 t103 t104 from zX HI105.out) (zR HO115.out) (by decide)) hk (fun _ h => h.2)) (fun _ h => h.1)) (hb) (hi)
 clear BK101 HO108 HO111 BK112 HO115 HB HI105
 obtain ⟨BK101, HO108, HO111, BK112, HO115, HB, HI105⟩ := n_
 (try clear hb)
 (try clear hb2)
 (try clear hk)
 (try clear hi)
 refine hK.out _ _ ((blk_cell BK112.out 0).trans rfl) (fun hHeld => ?_)
 clear hK K
 refine norm_ (a' := ?_) ?_ ?_
 rotate_left
 ·
  show Act.put _ (some 20) _ = _
  simp only [Act.put, List.setIfInBounds_toArray, List.set_cons_zero, List.set_cons_succ, i64_w, i32_w]
  rfl
 refine one_ (i := 6) (N := some 21) #[true,true,true,true,true,true,true,false,false,false] rfl rfl (one_of HT_.out zk) (by decide) (fun K hK => ?_)
 refine goes_ Try.func34 zk rfl #[.pointer (some ⟨g105, 0, none⟩), .int .i64 t116] (by rfl) rfl rfl zA ?_
 with_reducible refine (spec_l01Near.calls g105 t102 t117 t118 t116 t119 t120 t121 w _ ?side1 ?side2 A5.out).mono ?_
 (case side1 => exact zX HI105.out)
 (case side2 => exact zB)
 rintro e w20 ⟨rfl, hi, hb, hk⟩
 refine ⟨_, rfl, ?_⟩
 have n_ := y7 (KeepBut.blk hk (g' := gb101) (o := .cells #[.slice none 0 0] 26 (0, 0)) (zG BK101.out) NB101_105.out (by simp)) (Kd.R_mono (Kd.R_keep (IsS68.apart (show IsS68 w _ g105 t102 t117 t118 from zX HI105.out) (zR HO108.out) (by decide)) hk (fun _ h => h.2)) (fun _ h => h.1)) (Kd.R_mono (Kd.R_keep (IsS68.apart (show IsS68 w _ g105 t102 t117 t118 from zX HI105.out) (zR HO111.out) (by decide)) hk (fun _ h => h.2)) (fun _ h => h.1)) (KeepBut.blk hk (g' := gb112) (o := .cells #[.slice Ao10 t106.length co10] 26 (0, 0)) (zG BK112.out) NB112_105.out (by simp)) (Kd.R_mono (Kd.R_keep (IsS68.apart (show IsS68 w _ g105 t102 t117 t118 from zX HI105.out) (zR HO115.out) (by decide)) hk (fun _ h => h.2)) (fun _ h => h.1)) (hb) (hi)
 clear BK101 HO108 HO111 BK112 HO115 HB HI105
 obtain ⟨BK101, HO108, HO111, BK112, HO115, HB, HI105⟩ := n_
 (try clear hb)
 (try clear hb2)
 (try clear hk)
 (try clear hi)
 refine hK.out _ _ ((blk_cell BK112.out 0).trans rfl) (fun hHeld => ?_)
 clear hK K
 refine norm_ (a' := ?_) ?_ ?_
 rotate_left
 ·
  show Act.put _ (some 21) _ = _
  simp only [Act.put, List.setIfInBounds_toArray, List.set_cons_zero, List.set_cons_succ, i64_w, i32_w]
  rfl
 refine one_ (i := 7) (N := none) #[true,true,true,true,true,true,true,true,false,false] rfl rfl (one_of HT_.out zk) (by decide) (fun K hK => ?_)
 have hs21 : w20.cell? ⟨gb101, 0, none⟩ = some (.slice none 0 0) := (blk_cell BK101.out 0).trans rfl
 have hfs21 := blk_frozen BK101.out 0
 have hns21_1 := NB112_101.out
 have hms21_1 := NB101_112.out
 refine skip_ (w1 := ?_) (by rfl) rfl ?_ ?_
 rotate_left
 ·
  go_simp
  rfl
 refine hK.out _ _ (((cell_far (p := ⟨gb101, _, none⟩) NB112_101.out _).trans (hHeld))) (fun hHeld => ?_)
 clear hK K
 refine pure_ (i := 8) (N := some 3) (v := ?_) (a' := ?_) #[true,true,true,true,true,true,true,true,true,false] rfl rfl (any_of HT_.out zk) (fun _ _ _ h => h) (Or.inl ⟨by rfl, ?_⟩) ?_ ?_
 rotate_left; exact zp; rotate_left; exact zq
 refine pure_ (i := 9) (N := some 4) (v := ?_) (a' := ?_) #[true,true,true,true,true,true,true,true,true,true] rfl rfl (any_of HT_.out zk) (fun _ _ _ h => h) (Or.inl ⟨by rfl, ?_⟩) ?_ ?_
 rotate_left; exact zp; rotate_left; exact zq
 refine done_ (done_of HT_.out zk) ?_
 try go_wp2
 refine bodyPost_ret (results_ctt rfl _ _ gb101 26 #[.slice Ao10 t106.length co10] (0, 0) _ rfl (by refine zG ?_; refine blk_put (cs := #[.slice none 0 0]) ?_ 0 _ rfl; refine zG ?_; exact BK101.out) Try.underlying26 rfl zk) rfl ?_
 exact ⟨_, _, zE, by refine zR ?_; exact Kd.R_mono (Kd.R_far (p := ⟨gb101, 0, none⟩) (Kd.R_types HO108.out BK101.out (by decide)) (fun _ hk => hk.2) (.slice Ao10 t106.length co10)) (fun _ hk => hk.1.1), by refine zR ?_; exact Kd.R_mono (Kd.R_far (p := ⟨gb101, 0, none⟩) (Kd.R_types HO111.out BK101.out (by decide)) (fun _ hk => hk.2) (.slice Ao10 t106.length co10)) (fun _ hk => hk.1.1), zB⟩
end Go.Proofs.Ytgmciimgmnnhmaa.P
end
section
namespace Go.Proofs.Ytgmciimgmnnhmaa.P
open Go.RowKit Go.Proofs.YtgmciimgmnnhmaaW.PrintWords Go.Proofs.YtgmciimgmnnhmaaW.PrintLast Go.Proofs.YtgmciimgmnnhmaaW.PrintMore
attribute [local go_sem] max2_int min2_int max_two min_two max_three min_three max_four min_four   -- for this text's walks alone
set_option linter.unusedVariables false
set_option linter.unusedSimpArgs false
def impl_GrowDays.f (k : Nat) (l0_0 : List Int) (l1 : List Int) (a2 : Int) : Option (List Int × Int) := (impl_Garden_areHeights.f l0_0 l1).bind fun t102 => (if t102 = true then ((impl_isDays.f a2).bind fun t103 => ((impl_gardenCode.f l0_0 t103).bind fun t104 => (if t104 = 0 then ((impl_Garden_grown.f k l0_0 l1 a2).bind fun t105 => (some (t105, 0))) else (some (([] : List Int), t104))))) else ((impl_gardenCode.f l0_0 false).bind fun t108 => (if t108 = 0 then ((impl_Garden_grown.f k l0_0 l1 a2).bind fun t109 => (some (t109, 0))) else (some (([] : List Int), t108)))))
theorem impl_GrowDays.mono : ∀ a0 a1 a2 k, LeO (impl_GrowDays.f k a0 a1 a2) (impl_GrowDays.f (k + 1) a0 a1 a2) := by
  intro a0 a1 a2 k
  unfold impl_GrowDays.f
  repeat' first | (with_reducible exact impl_Garden_grown.mono _ _ _ _) | (with_reducible exact LeO.refl _) | (with_reducible exact LeO.none _) | (with_reducible refine LeO.ite ?_ ?_) | (with_reducible refine LeO.bind ?_ (fun _ => ?_)) | exact impl_Garden_grown.mono _ _ _ _ | exact LeO.none _ | refine LeO.ite ?_ ?_ | refine LeO.bind ?_ (fun _ => ?_)
def impl_GrowDays.T1 : Bool × List (List Nat × List Nat) := (true, [([], []), ([], []), ([], []), ([1, 2], [1, 2]), ([3, 3], [3]), ([4], [4]), ([5, 4, 4], [4, 5]), ([4, 6], [4, 6]), ([0, 7, 6], [0, 7]), ([8, 8, 0, 1, 2, 3, 4, 5, 6, 7, 8], [8])])
def impl_GrowDays.B1 : List Nat := [0, 0, 0, 6, 14, 30, 62, 126, 255, 511]
theorem impl_GrowDays.tab1 : rtab .any (opsOf Try.f13 1) = impl_GrowDays.T1 := by kernel_rfl
theorem impl_GrowDays.bits1 : waitsOk impl_GrowDays.T1.2 impl_GrowDays.B1 = true := by kernel_rfl
set_option maxHeartbeats 8000000 in
set_option maxRecDepth 100000 in
theorem impl_GrowDays.calls (k : Nat) (A0_0 : Option Addr) (c0_0 : Nat) (l0_0 : List Int) (A1 : Option Addr) (c1 : Nat) (l1 : List Int) (a2 : Int) (r1 : List Int) (r2 : Int) (w : World) (hr0_0 : Kd.C (Kd.int .i64) w A0_0 l0_0.length l0_0) (hc0_0 : l0_0.length ≤ c0_0) (hr1 : Kd.C (Kd.int .i64) w A1 l1.length l1) (hc1 : l1.length ≤ c1) (h : impl_GrowDays.f k l0_0 l1 a2 = some (r1, r2)) :
    Calls Try.prog 13 #[.agg #[.slice A0_0 l0_0.length c0_0], .slice A1 l1.length c1, .int .i64 a2] w fun e w' => ∃ v0_ : Value, e = .returned (.tuple #[v0_, .int .i64 r2]) ∧ Kd.R (Kd.int .i64) 2 w' w.heap.size (fun _ => True) v0_ r1 ∧ Below w.heap.size w w' := by
 have hu26 := Try.underlying26
 have HR0_0 := Aside0.mk hr0_0
 have HC0_0 := Aside0.mk hc0_0
 clear hr0_0 hc0_0
 have HR1 := Aside0.mk hr1
 have HC1 := Aside0.mk hc1
 clear hr1 hc1
 have HB := Aside0.mk (Below.refl w.heap.size w)
 have H : ((impl_Garden_areHeights.f l0_0 l1).bind fun t102 => (if t102 = true then ((impl_isDays.f a2).bind fun t103 => ((impl_gardenCode.f l0_0 t103).bind fun t104 => (if t104 = 0 then ((impl_Garden_grown.f k l0_0 l1 a2).bind fun t105 => (some (t105, 0))) else (some (([] : List Int), t104))))) else ((impl_gardenCode.f l0_0 false).bind fun t108 => (if t108 = 0 then ((impl_Garden_grown.f k l0_0 l1 a2).bind fun t109 => (some (t109, 0))) else (some (([] : List Int), t108)))))) = some (r1, r2) := h
 clear h
 replace H := Option.bind_eq_some_iff.mp H
 obtain ⟨t102, A40, H⟩ := H
 replace H : (if t102 = true then ((impl_isDays.f a2).bind fun t103 => ((impl_gardenCode.f l0_0 t103).bind fun t104 => (if t104 = 0 then ((impl_Garden_grown.f k l0_0 l1 a2).bind fun t105 => (some (t105, 0))) else (some (([] : List Int), t104))))) else ((impl_gardenCode.f l0_0 false).bind fun t108 => (if t108 = 0 then ((impl_Garden_grown.f k l0_0 l1 a2).bind fun t109 => (some (t109, 0))) else (some (([] : List Int), t108))))) = some (r1, r2) := H
 have A4 := Aside0.mk A40
 clear A40
 by_cases c5 : t102 = true
 ·
  subst c5
  have H1 : ((impl_isDays.f a2).bind fun t103 => ((impl_gardenCode.f l0_0 t103).bind fun t104 => (if t104 = 0 then ((impl_Garden_grown.f k l0_0 l1 a2).bind fun t105 => (some (t105, 0))) else (some (([] : List Int), t104))))) = some (r1, r2) := by rw [if_pos rfl] at H; exact H
  clear H
  have H := H1
  clear H1
  replace H := Option.bind_eq_some_iff.mp H
  obtain ⟨t103, A60, H⟩ := H
  replace H : ((impl_gardenCode.f l0_0 t103).bind fun t104 => (if t104 = 0 then ((impl_Garden_grown.f k l0_0 l1 a2).bind fun t105 => (some (t105, 0))) else (some (([] : List Int), t104)))) = some (r1, r2) := H
  have A6 := Aside0.mk A60
  clear A60
  replace H := Option.bind_eq_some_iff.mp H
  obtain ⟨t104, A70, H⟩ := H
  replace H : (if t104 = 0 then ((impl_Garden_grown.f k l0_0 l1 a2).bind fun t105 => (some (t105, 0))) else (some (([] : List Int), t104))) = some (r1, r2) := H
  have A7 := Aside0.mk A70
  clear A70
  by_cases c8 : t104 = 0
  ·
   rw [if_pos c8] at H
   have c8b0 : (t104 == 0) = true := beq_iff_eq.mpr c8
   have c8b1 : (t104 != 0) = false := bne_eq_false_iff_eq.mpr c8
   clear c8
   replace H := Option.bind_eq_some_iff.mp H
   obtain ⟨t105, A90, H⟩ := H
   replace H : (some (t105, 0)) = some (r1, r2) := H
   have A9 := Aside0.mk A90
   clear A90
   simp only [Option.some.injEq, Prod.mk.injEq] at H
   obtain ⟨rfl, rfl⟩ := H
   go_enter Try.func13, Try.ntmps13
   try go_wp2_with (first | ((with_reducible refine gate_dst (N := 3) rfl ?_); refine box_event zr (N := 3) zr (cs := #[.slice A0_0 l0_0.length c0_0]) (t := 26) zg ?_; intro gb101 hg w10 hbox hb; have n_ := y4 (below_step (zB) hb) (hbox) ((zS hg : w.heap.size ≤ gb101)) ((zS hg : w.heap.size ≤ gb101)); clear HB; obtain ⟨HB, BK101, GW101, GE101⟩ := n_; clear hb hbox hg))
   have n_ := y2 (blk_drew BK101.out) (below_drew1 HB.out)
   clear BK101 HB
   obtain ⟨BK101, HB⟩ := n_
   refine start_ (n := 10) (S := fun w' => w'.cell? ⟨gb101, 0, none⟩ = some (.slice A0_0 l0_0.length c0_0)) (ds := []) #[false,false,false,false,false,false,false,false,false,false] zk rfl rfl ((blk_cell BK101.out 0).trans rfl) (fun hHeld => ?_); refine with_tabW impl_GrowDays.tab1 impl_GrowDays.bits1 (fun HT_ HW_ => ?_)
   generalize w10.drew = w11 at BK101 HB hHeld ⊢
   refine pure_ (i := 2) (N := some 11) (v := ?_) (a' := ?_) #[false,false,true,false,false,false,false,false,false,false] rfl rfl (any_of HT_.out zk) (fun _ _ _ h => h) (Or.inl ⟨by rfl, ?_⟩) ?_ ?_
   rotate_left; exact zp; rotate_left; exact zq
   refine take_ (i := 0) (N := some 9) (v := ?_) (a' := ?_) #[true,false,true,false,false,false,false,false,false,false] rfl rfl (take_ofW HT_.out HW_.out zk) (fun _ _ _ h => h) (Or.inl ⟨by rfl, ?_⟩) hHeld ?_ ?_
   rotate_left
   ·
    intro w' s0
    go_simp
    with_reducible rfl
   rotate_left
   ·
    simp only [Act.put, List.setIfInBounds_toArray, List.set_cons_zero, List.set_cons_succ, i64_w, i32_w]
    rfl
   refine take_ (i := 1) (N := some 10) (v := ?_) (a' := ?_) #[true,true,true,false,false,false,false,false,false,false] rfl rfl (take_ofW HT_.out HW_.out zk) (fun _ _ _ h => h) (Or.inl ⟨by rfl, ?_⟩) hHeld ?_ ?_
   rotate_left
   ·
    intro w' s0
    go_simp
    with_reducible rfl
   rotate_left
   ·
    simp only [Act.put, List.setIfInBounds_toArray, List.set_cons_zero, List.set_cons_succ, i64_w, i32_w]
    rfl
   refine one_ (i := 3) (N := some 12) #[true,true,true,true,false,false,false,false,false,false] rfl rfl (one_of HT_.out zk) (by decide) (fun K hK => ?_)
   refine goes_ Try.func43 zk rfl #[.agg #[.slice A0_0 l0_0.length c0_0], .slice A1 l1.length c1] (by rfl) rfl rfl zA ?_
   with_reducible refine (impl_Garden_areHeights.calls _ _ l0_0 _ _ l1 true _ ?side1 ?side2 ?side3 ?side4 A4.out).mono ?_
   (case side1 => exact zC (Kd.C_below HR0_0.out HB.out))
   (case side2 => exact HC0_0.out)
   (case side3 => exact zC (Kd.C_below HR1.out HB.out))
   (case side4 => exact HC1.out)
   rintro e w12 ⟨rfl, hb⟩
   refine ⟨_, rfl, ?_⟩
   have n_ := y2 (zb BK101.out hb) (below_step (zB) hb)
   clear BK101 HB
   obtain ⟨BK101, HB⟩ := n_
   (try clear hb)
   (try clear hb2)
   (try clear hk)
   (try clear hi)
   refine hK.out _ _ ((blk_cell BK101.out 0).trans rfl) (fun hHeld => ?_)
   clear hK K
   refine norm_ (a' := ?_) ?_ ?_
   rotate_left
   ·
    show Act.put _ (some 12) _ = _
    simp only [Act.put, List.setIfInBounds_toArray, List.set_cons_zero, List.set_cons_succ, i64_w, i32_w]
    rfl
   refine pure_ (i := 4) (N := some 13) (v := ?_) (a' := ?_) #[true,true,true,true,true,false,false,false,false,false] rfl rfl (any_of HT_.out zk) (fun _ _ _ h => h) (Or.inl ⟨by rfl, ?_⟩) ?_ ?_
   rotate_left; exact zp; rotate_left; exact zq
   refine pure_ (i := 5) (N := some 14) (v := ?_) (a' := ?_) #[true,true,true,true,true,true,false,false,false,false] rfl rfl (any_of HT_.out zk) (fun _ _ _ h => h) (Or.inl ⟨by rfl, ?_⟩) ?_ ?_
   rotate_left; exact zp; rotate_left; exact zq
   refine one_ (i := 6) (N := some 15) #[true,true,true,true,true,true,true,false,false,false] rfl rfl (one_of HT_.out zk) (by decide) (fun K hK => ?_)
   refine goes_ Try.func36 zk rfl #[.int .i64 a2] (by rfl) rfl rfl zA ?_
   with_reducible refine (impl_isDays.calls a2 t103 _ A6.out).mono ?_
   rintro e w' ⟨rfl, ⟨nd, rfl⟩⟩
   refine ⟨_, rfl, ?_⟩
   refine hK.out _ _ ((blk_cell BK101.out 0).trans rfl) (fun hHeld => ?_)
   clear hK K
   refine norm_ (a' := ?_) ?_ ?_
   rotate_left
   ·
    show Act.put _ (some 15) _ = _
    simp only [Act.put, List.setIfInBounds_toArray, List.set_cons_zero, List.set_cons_succ, i64_w, i32_w]
    rfl
   refine pure_ (i := 7) (N := some 16) (v := ?_) (a' := ?_) #[true,true,true,true,true,true,true,true,false,false] rfl rfl (any_of HT_.out zk) (fun _ _ _ h => h) (Or.inl ⟨by rfl, ?_⟩) ?_ ?_
   rotate_left; exact zp; rotate_left; exact zq
   refine one_ (i := 8) (N := some 17) #[true,true,true,true,true,true,true,true,true,false] rfl rfl (one_of HT_.out zk) (by decide) (fun K hK => ?_)
   refine goes_ Try.func26 zk rfl #[.agg #[.slice A0_0 l0_0.length c0_0], .bool t103] (by rfl) rfl rfl zA ?_
   with_reducible refine (impl_gardenCode.calls _ _ l0_0 t103 t104 _ ?side1 ?side2 A7.out).mono ?_
   (case side1 => exact zC (Kd.C_below HR0_0.out (zB)))
   (case side2 => exact HC0_0.out)
   rintro e w13 ⟨rfl, hb⟩
   refine ⟨_, rfl, ?_⟩
   have n_ := y2 (zb BK101.out hb) (below_step (zB) hb)
   clear BK101 HB
   obtain ⟨BK101, HB⟩ := n_
   (try clear hb)
   (try clear hb2)
   (try clear hk)
   (try clear hi)
   refine hK.out _ _ ((blk_cell BK101.out 0).trans rfl) (fun hHeld => ?_)
   clear hK K
   refine norm_ (a' := ?_) ?_ ?_
   rotate_left
   ·
    show Act.put _ (some 17) _ = _
    simp only [Act.put, List.setIfInBounds_toArray, List.set_cons_zero, List.set_cons_succ, i64_w, i32_w]
    rfl
   refine pure_ (i := 9) (N := some 8) (v := ?_) (a' := ?_) #[true,true,true,true,true,true,true,true,true,true] rfl rfl (any_of HT_.out zk) (fun _ _ _ h => h) (Or.inl ⟨by rfl, ?_⟩) ?_ ?_
   rotate_left; exact zp; rotate_left; exact zq
   refine done_ (done_of HT_.out zk) ?_
   have hcz14_0 := zc BK101.out
   have hfz14_0 := blk_frozen BK101.out 0
   try go_wp2_with (first | ((with_reducible refine gate_callee (f := 44) rfl ?_); refine goesL_ (some 24) rfl rfl Try.func44 zk rfl #[.agg #[.slice A0_0 l0_0.length c0_0], .slice A1 l1.length c1, .int .i64 a2] rfl zA ?_; (with_reducible refine (impl_Garden_grown.calls k _ _ l0_0 _ _ l1 a2 t105 _ ?side1 ?side2 ?side3 ?side4 A9.out).mono ?_); (case side1 => exact zC (Kd.C_below HR0_0.out HB.out)); (case side2 => exact HC0_0.out); (case side3 => exact zC (Kd.C_below HR1.out HB.out)); (case side4 => exact HC1.out); rintro e w15 ⟨v106, rfl, ho0, hb⟩; refine ⟨_, rfl, ?_⟩; have n_ := y3 (Kd.R_lower ho0 (below_size (zB))) (zb BK101.out hb) (below_step (zB) hb); clear BK101 HB; obtain ⟨HO107, BK101, HB⟩ := n_; (try clear hb); (try clear hb2); (try clear hk); (try clear hi); (try clear ho0)))
   go_ret2
   exact ⟨_, zE, zR HO107.out, zB⟩
  rw [if_neg c8] at H
  have c8b0 : (t104 == 0) = false := beq_eq_false_iff_ne.mpr c8
  have c8b1 : (t104 != 0) = true := bne_iff_ne.mpr c8
  simp only [Option.some.injEq, Prod.mk.injEq] at H
  obtain ⟨rfl, rfl⟩ := H
  go_enter Try.func13, Try.ntmps13
  try go_wp2_with (first | ((with_reducible refine gate_dst (N := 3) rfl ?_); refine box_event zr (N := 3) zr (cs := #[.slice A0_0 l0_0.length c0_0]) (t := 26) zg ?_; intro gb101 hg w16 hbox hb; have n_ := y4 (below_step (zB) hb) (hbox) ((zS hg : w.heap.size ≤ gb101)) ((zS hg : w.heap.size ≤ gb101)); clear HB; obtain ⟨HB, BK101, GW101, GE101⟩ := n_; clear hb hbox hg))
  have n_ := y2 (blk_drew BK101.out) (below_drew1 HB.out)
  clear BK101 HB
  obtain ⟨BK101, HB⟩ := n_
  refine start_ (n := 10) (S := fun w' => w'.cell? ⟨gb101, 0, none⟩ = some (.slice A0_0 l0_0.length c0_0)) (ds := []) #[false,false,false,false,false,false,false,false,false,false] zk rfl rfl ((blk_cell BK101.out 0).trans rfl) (fun hHeld => ?_); refine with_tabW impl_GrowDays.tab1 impl_GrowDays.bits1 (fun HT_ HW_ => ?_)
  generalize w16.drew = w17 at BK101 HB hHeld ⊢
  refine pure_ (i := 2) (N := some 11) (v := ?_) (a' := ?_) #[false,false,true,false,false,false,false,false,false,false] rfl rfl (any_of HT_.out zk) (fun _ _ _ h => h) (Or.inl ⟨by rfl, ?_⟩) ?_ ?_
  rotate_left; exact zp; rotate_left; exact zq
  refine take_ (i := 0) (N := some 9) (v := ?_) (a' := ?_) #[true,false,true,false,false,false,false,false,false,false] rfl rfl (take_ofW HT_.out HW_.out zk) (fun _ _ _ h => h) (Or.inl ⟨by rfl, ?_⟩) hHeld ?_ ?_
  rotate_left
  ·
   intro w' s0
   go_simp
   with_reducible rfl
  rotate_left
  ·
   simp only [Act.put, List.setIfInBounds_toArray, List.set_cons_zero, List.set_cons_succ, i64_w, i32_w]
   rfl
  refine take_ (i := 1) (N := some 10) (v := ?_) (a' := ?_) #[true,true,true,false,false,false,false,false,false,false] rfl rfl (take_ofW HT_.out HW_.out zk) (fun _ _ _ h => h) (Or.inl ⟨by rfl, ?_⟩) hHeld ?_ ?_
  rotate_left
  ·
   intro w' s0
   go_simp
   with_reducible rfl
  rotate_left
  ·
   simp only [Act.put, List.setIfInBounds_toArray, List.set_cons_zero, List.set_cons_succ, i64_w, i32_w]
   rfl
  refine one_ (i := 3) (N := some 12) #[true,true,true,true,false,false,false,false,false,false] rfl rfl (one_of HT_.out zk) (by decide) (fun K hK => ?_)
  refine goes_ Try.func43 zk rfl #[.agg #[.slice A0_0 l0_0.length c0_0], .slice A1 l1.length c1] (by rfl) rfl rfl zA ?_
  with_reducible refine (impl_Garden_areHeights.calls _ _ l0_0 _ _ l1 true _ ?side1 ?side2 ?side3 ?side4 A4.out).mono ?_
  (case side1 => exact zC (Kd.C_below HR0_0.out HB.out))
  (case side2 => exact HC0_0.out)
  (case side3 => exact zC (Kd.C_below HR1.out HB.out))
  (case side4 => exact HC1.out)
  rintro e w18 ⟨rfl, hb⟩
  refine ⟨_, rfl, ?_⟩
  have n_ := y2 (zb BK101.out hb) (below_step (zB) hb)
  clear BK101 HB
  obtain ⟨BK101, HB⟩ := n_
  (try clear hb)
  (try clear hb2)
  (try clear hk)
  (try clear hi)
  refine hK.out _ _ ((blk_cell BK101.out 0).trans rfl) (fun hHeld => ?_)
  clear hK K
  refine norm_ (a' := ?_) ?_ ?_
  rotate_left
  ·
   show Act.put _ (some 12) _ = _
   simp only [Act.put, List.setIfInBounds_toArray, List.set_cons_zero, List.set_cons_succ, i64_w, i32_w]
   rfl
  refine pure_ (i := 4) (N := some 13) (v := ?_) (a' := ?_) #[true,true,true,true,true,false,false,false,false,false] rfl rfl (any_of HT_.out zk) (fun _ _ _ h => h) (Or.inl ⟨by rfl, ?_⟩) ?_ ?_
  rotate_left; exact zp; rotate_left; exact zq
  refine pure_ (i := 5) (N := some 14) (v := ?_) (a' := ?_) #[true,true,true,true,true,true,false,false,false,false] rfl rfl (any_of HT_.out zk) (fun _ _ _ h => h) (Or.inl ⟨by rfl, ?_⟩) ?_ ?_
  rotate_left; exact zp; rotate_left; exact zq
  refine one_ (i := 6) (N := some 15) #[true,true,true,true,true,true,true,false,false,false] rfl rfl (one_of HT_.out zk) (by decide) (fun K hK => ?_)
  refine goes_ Try.func36 zk rfl #[.int .i64 a2] (by rfl) rfl rfl zA ?_
  with_reducible refine (impl_isDays.calls a2 t103 _ A6.out).mono ?_
  rintro e w' ⟨rfl, ⟨nd, rfl⟩⟩
  refine ⟨_, rfl, ?_⟩
  refine hK.out _ _ ((blk_cell BK101.out 0).trans rfl) (fun hHeld => ?_)
  clear hK K
  refine norm_ (a' := ?_) ?_ ?_
  rotate_left
  ·
   show Act.put _ (some 15) _ = _
   simp only [Act.put, List.setIfInBounds_toArray, List.set_cons_zero, List.set_cons_succ, i64_w, i32_w]
   rfl
  refine pure_ (i := 7) (N := some 16) (v := ?_) (a' := ?_) #[true,true,true,true,true,true,true,true,false,false] rfl rfl (any_of HT_.out zk) (fun _ _ _ h => h) (Or.inl ⟨by rfl, ?_⟩) ?_ ?_
  rotate_left; exact zp; rotate_left; exact zq
  refine one_ (i := 8) (N := some 17) #[true,true,true,true,true,true,true,true,true,false] rfl rfl (one_of HT_.out zk) (by decide) (fun K hK => ?_)
  refine goes_ Try.func26 zk rfl #[.agg #[.slice A0_0 l0_0.length c0_0], .bool t103] (by rfl) rfl rfl zA ?_
  with_reducible refine (impl_gardenCode.calls _ _ l0_0 t103 t104 _ ?side1 ?side2 A7.out).mono ?_
  (case side1 => exact zC (Kd.C_below HR0_0.out (zB)))
  (case side2 => exact HC0_0.out)
  rintro e w19 ⟨rfl, hb⟩
  refine ⟨_, rfl, ?_⟩
  have n_ := y2 (zb BK101.out hb) (below_step (zB) hb)
  clear BK101 HB
  obtain ⟨BK101, HB⟩ := n_
  (try clear hb)
  (try clear hb2)
  (try clear hk)
  (try clear hi)
  refine hK.out _ _ ((blk_cell BK101.out 0).trans rfl) (fun hHeld => ?_)
  clear hK K
  refine norm_ (a' := ?_) ?_ ?_
  rotate_left
  ·
   show Act.put _ (some 17) _ = _
   simp only [Act.put, List.setIfInBounds_toArray, List.set_cons_zero, List.set_cons_succ, i64_w, i32_w]
   rfl
  refine pure_ (i := 9) (N := some 8) (v := ?_) (a' := ?_) #[true,true,true,true,true,true,true,true,true,true] rfl rfl (any_of HT_.out zk) (fun _ _ _ h => h) (Or.inl ⟨by rfl, ?_⟩) ?_ ?_
  rotate_left; exact zp; rotate_left; exact zq
  refine done_ (done_of HT_.out zk) ?_
  try go_wp2
  go_ret2
  exact ⟨_, zE, zN, zB⟩
 replace c5 := Bool.eq_false_iff.mpr c5
 subst c5
 have H1 : ((impl_gardenCode.f l0_0 false).bind fun t108 => (if t108 = 0 then ((impl_Garden_grown.f k l0_0 l1 a2).bind fun t109 => (some (t109, 0))) else (some (([] : List Int), t108)))) = some (r1, r2) := by rw [if_neg (show ¬ (false = true) by decide)] at H; exact H
 clear H
 have H := H1
 clear H1
 replace H := Option.bind_eq_some_iff.mp H
 obtain ⟨t108, A200, H⟩ := H
 replace H : (if t108 = 0 then ((impl_Garden_grown.f k l0_0 l1 a2).bind fun t109 => (some (t109, 0))) else (some (([] : List Int), t108))) = some (r1, r2) := H
 have A20 := Aside0.mk A200
 clear A200
 by_cases c21 : t108 = 0
 ·
  rw [if_pos c21] at H
  have c21b0 : (t108 == 0) = true := beq_iff_eq.mpr c21
  have c21b1 : (t108 != 0) = false := bne_eq_false_iff_eq.mpr c21
  clear c21
  replace H := Option.bind_eq_some_iff.mp H
  obtain ⟨t109, A220, H⟩ := H
  replace H : (some (t109, 0)) = some (r1, r2) := H
  have A22 := Aside0.mk A220
  clear A220
  simp only [Option.some.injEq, Prod.mk.injEq] at H
  obtain ⟨rfl, rfl⟩ := H
  go_enter Try.func13, Try.ntmps13
  try go_wp2_with (first | ((with_reducible refine gate_dst (N := 3) rfl ?_); refine box_event zr (N := 3) zr (cs := #[.slice A0_0 l0_0.length c0_0]) (t := 26) zg ?_; intro gb101 hg w23 hbox hb; have n_ := y4 (below_step (zB) hb) (hbox) ((zS hg : w.heap.size ≤ gb101)) ((zS hg : w.heap.size ≤ gb101)); clear HB; obtain ⟨HB, BK101, GW101, GE101⟩ := n_; clear hb hbox hg))
  have n_ := y2 (blk_drew BK101.out) (below_drew1 HB.out)
  clear BK101 HB
  obtain ⟨BK101, HB⟩ := n_
  refine start_ (n := 10) (S := fun w' => w'.cell? ⟨gb101, 0, none⟩ = some (.slice A0_0 l0_0.length c0_0)) (ds := []) #[false,false,false,false,false,false,false,false,false,false] zk rfl rfl ((blk_cell BK101.out 0).trans rfl) (fun hHeld => ?_); refine with_tabW impl_GrowDays.tab1 impl_GrowDays.bits1 (fun HT_ HW_ => ?_)
  generalize w23.drew = w24 at BK101 HB hHeld ⊢
  refine pure_ (i := 2) (N := some 11) (v := ?_) (a' := ?_) #[false,false,true,false,false,false,false,false,false,false] rfl rfl (any_of HT_.out zk) (fun _ _ _ h => h) (Or.inl ⟨by rfl, ?_⟩) ?_ ?_
  rotate_left; exact zp; rotate_left; exact zq
  refine take_ (i := 0) (N := some 9) (v := ?_) (a' := ?_) #[true,false,true,false,false,false,false,false,false,false] rfl rfl (take_ofW HT_.out HW_.out zk) (fun _ _ _ h => h) (Or.inl ⟨by rfl, ?_⟩) hHeld ?_ ?_
  rotate_left
  ·
   intro w' s0
   go_simp
   with_reducible rfl
  rotate_left
  ·
   simp only [Act.put, List.setIfInBounds_toArray, List.set_cons_zero, List.set_cons_succ, i64_w, i32_w]
   rfl
  refine take_ (i := 1) (N := some 10) (v := ?_) (a' := ?_) #[true,true,true,false,false,false,false,false,false,false] rfl rfl (take_ofW HT_.out HW_.out zk) (fun _ _ _ h => h) (Or.inl ⟨by rfl, ?_⟩) hHeld ?_ ?_
  rotate_left
  ·
   intro w' s0
   go_simp
   with_reducible rfl
  rotate_left
  ·
   simp only [Act.put, List.setIfInBounds_toArray, List.set_cons_zero, List.set_cons_succ, i64_w, i32_w]
   rfl
  refine one_ (i := 3) (N := some 12) #[true,true,true,true,false,false,false,false,false,false] rfl rfl (one_of HT_.out zk) (by decide) (fun K hK => ?_)
  refine goes_ Try.func43 zk rfl #[.agg #[.slice A0_0 l0_0.length c0_0], .slice A1 l1.length c1] (by rfl) rfl rfl zA ?_
  with_reducible refine (impl_Garden_areHeights.calls _ _ l0_0 _ _ l1 false _ ?side1 ?side2 ?side3 ?side4 A4.out).mono ?_
  (case side1 => exact zC (Kd.C_below HR0_0.out HB.out))
  (case side2 => exact HC0_0.out)
  (case side3 => exact zC (Kd.C_below HR1.out HB.out))
  (case side4 => exact HC1.out)
  rintro e w25 ⟨rfl, hb⟩
  refine ⟨_, rfl, ?_⟩
  have n_ := y2 (zb BK101.out hb) (below_step (zB) hb)
  clear BK101 HB
  obtain ⟨BK101, HB⟩ := n_
  (try clear hb)
  (try clear hb2)
  (try clear hk)
  (try clear hi)
  refine hK.out _ _ ((blk_cell BK101.out 0).trans rfl) (fun hHeld => ?_)
  clear hK K
  refine norm_ (a' := ?_) ?_ ?_
  rotate_left
  ·
   show Act.put _ (some 12) _ = _
   simp only [Act.put, List.setIfInBounds_toArray, List.set_cons_zero, List.set_cons_succ, i64_w, i32_w]
   rfl
  refine pure_ (i := 4) (N := some 13) (v := ?_) (a' := ?_) #[true,true,true,true,true,false,false,false,false,false] rfl rfl (any_of HT_.out zk) (fun _ _ _ h => h) (Or.inl ⟨by rfl, ?_⟩) ?_ ?_
  rotate_left; exact zp; rotate_left; exact zq
  refine pure_ (i := 5) (N := some 14) (v := undef) (a' := ?_) #[true,true,true,true,true,true,false,false,false,false] rfl rfl (any_of HT_.out zk) (fun _ _ _ h => h) (Or.inr ⟨by rfl, rfl⟩) ?_ ?_
  rotate_left
  ·
   simp only [Act.put, List.setIfInBounds_toArray, List.set_cons_zero, List.set_cons_succ, i64_w, i32_w]
   rfl
  refine pure_ (i := 6) (N := some 15) (v := undef) (a' := ?_) #[true,true,true,true,true,true,true,false,false,false] rfl rfl (any_of HT_.out zk) (fun _ _ _ h => h) (Or.inr ⟨by rfl, rfl⟩) ?_ ?_
  rotate_left
  ·
   simp only [Act.put, List.setIfInBounds_toArray, List.set_cons_zero, List.set_cons_succ, i64_w, i32_w]
   rfl
  refine pure_ (i := 7) (N := some 16) (v := ?_) (a' := ?_) #[true,true,true,true,true,true,true,true,false,false] rfl rfl (any_of HT_.out zk) (fun _ _ _ h => h) (Or.inl ⟨by rfl, ?_⟩) ?_ ?_
  rotate_left; exact zp; rotate_left; exact zq
  refine one_ (i := 8) (N := some 17) #[true,true,true,true,true,true,true,true,true,false] rfl rfl (one_of HT_.out zk) (by decide) (fun K hK => ?_)
  refine goes_ Try.func26 zk rfl #[.agg #[.slice A0_0 l0_0.length c0_0], .bool false] (by rfl) rfl rfl zA ?_
  with_reducible refine (impl_gardenCode.calls _ _ l0_0 false t108 _ ?side1 ?side2 A20.out).mono ?_
  (case side1 => exact zC (Kd.C_below HR0_0.out HB.out))
  (case side2 => exact HC0_0.out)
  rintro e w26 ⟨rfl, hb⟩
  refine ⟨_, rfl, ?_⟩
  have n_ := y2 (zb BK101.out hb) (below_step (zB) hb)
  clear BK101 HB
  obtain ⟨BK101, HB⟩ := n_
  (try clear hb)
  (try clear hb2)
  (try clear hk)
  (try clear hi)
  refine hK.out _ _ ((blk_cell BK101.out 0).trans rfl) (fun hHeld => ?_)
  clear hK K
  refine norm_ (a' := ?_) ?_ ?_
  rotate_left
  ·
   show Act.put _ (some 17) _ = _
   simp only [Act.put, List.setIfInBounds_toArray, List.set_cons_zero, List.set_cons_succ, i64_w, i32_w]
   rfl
  refine pure_ (i := 9) (N := some 8) (v := ?_) (a' := ?_) #[true,true,true,true,true,true,true,true,true,true] rfl rfl (any_of HT_.out zk) (fun _ _ _ h => h) (Or.inl ⟨by rfl, ?_⟩) ?_ ?_
  rotate_left; exact zp; rotate_left; exact zq
  refine done_ (done_of HT_.out zk) ?_
  have hcz27_0 := zc BK101.out
  have hfz27_0 := blk_frozen BK101.out 0
  try go_wp2_with (first | ((with_reducible refine gate_callee (f := 44) rfl ?_); refine goesL_ (some 24) rfl rfl Try.func44 zk rfl #[.agg #[.slice A0_0 l0_0.length c0_0], .slice A1 l1.length c1, .int .i64 a2] rfl zA ?_; (with_reducible refine (impl_Garden_grown.calls k _ _ l0_0 _ _ l1 a2 t109 _ ?side1 ?side2 ?side3 ?side4 A22.out).mono ?_); (case side1 => exact zC (Kd.C_below HR0_0.out HB.out)); (case side2 => exact HC0_0.out); (case side3 => exact zC (Kd.C_below HR1.out HB.out)); (case side4 => exact HC1.out); rintro e w28 ⟨v110, rfl, ho0, hb⟩; refine ⟨_, rfl, ?_⟩; have n_ := y3 (Kd.R_lower ho0 (below_size (zB))) (zb BK101.out hb) (below_step (zB) hb); clear BK101 HB; obtain ⟨HO111, BK101, HB⟩ := n_; (try clear hb); (try clear hb2); (try clear hk); (try clear hi); (try clear ho0)))
  go_ret2
  exact ⟨_, zE, zR HO111.out, zB⟩
 rw [if_neg c21] at H
 have c21b0 : (t108 == 0) = false := beq_eq_false_iff_ne.mpr c21
 have c21b1 : (t108 != 0) = true := bne_iff_ne.mpr c21
 simp only [Option.some.injEq, Prod.mk.injEq] at H
 obtain ⟨rfl, rfl⟩ := H
 go_enter Try.func13, Try.ntmps13
 try go_wp2_with (first | ((with_reducible refine gate_dst (N := 3) rfl ?_); refine box_event zr (N := 3) zr (cs := #[.slice A0_0 l0_0.length c0_0]) (t := 26) zg ?_; intro gb101 hg w29 hbox hb; have n_ := y4 (below_step (zB) hb) (hbox) ((zS hg : w.heap.size ≤ gb101)) ((zS hg : w.heap.size ≤ gb101)); clear HB; obtain ⟨HB, BK101, GW101, GE101⟩ := n_; clear hb hbox hg))
 have n_ := y2 (blk_drew BK101.out) (below_drew1 HB.out)
 clear BK101 HB
 obtain ⟨BK101, HB⟩ := n_
 refine start_ (n := 10) (S := fun w' => w'.cell? ⟨gb101, 0, none⟩ = some (.slice A0_0 l0_0.length c0_0)) (ds := []) #[false,false,false,false,false,false,false,false,false,false] zk rfl rfl ((blk_cell BK101.out 0).trans rfl) (fun hHeld => ?_); refine with_tabW impl_GrowDays.tab1 impl_GrowDays.bits1 (fun HT_ HW_ => ?_)
 generalize w29.drew = w30 at BK101 HB hHeld ⊢
 refine pure_ (i := 2) (N := some 11) (v := ?_) (a' := ?_) #[false,false,true,false,false,false,false,false,false,false] rfl rfl (any_of HT_.out zk) (fun _ _ _ h => h) (Or.inl ⟨by rfl, ?_⟩) ?_ ?_
 rotate_left; exact zp; rotate_left; exact zq
 refine take_ (i := 0) (N := some 9) (v := ?_) (a' := ?_) #[true,false,true,false,false,false,false,false,false,false] rfl rfl (take_ofW HT_.out HW_.out zk) (fun _ _ _ h => h) (Or.inl ⟨by rfl, ?_⟩) hHeld ?_ ?_
 rotate_left
 ·
  intro w' s0
  go_simp
  with_reducible rfl
 rotate_left
 ·
  simp only [Act.put, List.setIfInBounds_toArray, List.set_cons_zero, List.set_cons_succ, i64_w, i32_w]
  rfl
 refine take_ (i := 1) (N := some 10) (v := ?_) (a' := ?_) #[true,true,true,false,false,false,false,false,false,false] rfl rfl (take_ofW HT_.out HW_.out zk) (fun _ _ _ h => h) (Or.inl ⟨by rfl, ?_⟩) hHeld ?_ ?_
 rotate_left
 ·
  intro w' s0
  go_simp
  with_reducible rfl
 rotate_left
 ·
  simp only [Act.put, List.setIfInBounds_toArray, List.set_cons_zero, List.set_cons_succ, i64_w, i32_w]
  rfl
 refine one_ (i := 3) (N := some 12) #[true,true,true,true,false,false,false,false,false,false] rfl rfl (one_of HT_.out zk) (by decide) (fun K hK => ?_)
 refine goes_ Try.func43 zk rfl #[.agg #[.slice A0_0 l0_0.length c0_0], .slice A1 l1.length c1] (by rfl) rfl rfl zA ?_
 with_reducible refine (impl_Garden_areHeights.calls _ _ l0_0 _ _ l1 false _ ?side1 ?side2 ?side3 ?side4 A4.out).mono ?_
 (case side1 => exact zC (Kd.C_below HR0_0.out HB.out))
 (case side2 => exact HC0_0.out)
 (case side3 => exact zC (Kd.C_below HR1.out HB.out))
 (case side4 => exact HC1.out)
 rintro e w31 ⟨rfl, hb⟩
 refine ⟨_, rfl, ?_⟩
 have n_ := y2 (zb BK101.out hb) (below_step (zB) hb)
 clear BK101 HB
 obtain ⟨BK101, HB⟩ := n_
 (try clear hb)
 (try clear hb2)
 (try clear hk)
 (try clear hi)
 refine hK.out _ _ ((blk_cell BK101.out 0).trans rfl) (fun hHeld => ?_)
 clear hK K
 refine norm_ (a' := ?_) ?_ ?_
 rotate_left
 ·
  show Act.put _ (some 12) _ = _
  simp only [Act.put, List.setIfInBounds_toArray, List.set_cons_zero, List.set_cons_succ, i64_w, i32_w]
  rfl
 refine pure_ (i := 4) (N := some 13) (v := ?_) (a' := ?_) #[true,true,true,true,true,false,false,false,false,false] rfl rfl (any_of HT_.out zk) (fun _ _ _ h => h) (Or.inl ⟨by rfl, ?_⟩) ?_ ?_
 rotate_left; exact zp; rotate_left; exact zq
 refine pure_ (i := 5) (N := some 14) (v := undef) (a' := ?_) #[true,true,true,true,true,true,false,false,false,false] rfl rfl (any_of HT_.out zk) (fun _ _ _ h => h) (Or.inr ⟨by rfl, rfl⟩) ?_ ?_
 rotate_left
 ·
  simp only [Act.put, List.setIfInBounds_toArray, List.set_cons_zero, List.set_cons_succ, i64_w, i32_w]
  rfl
 refine pure_ (i := 6) (N := some 15) (v := undef) (a' := ?_) #[true,true,true,true,true,true,true,false,false,false] rfl rfl (any_of HT_.out zk) (fun _ _ _ h => h) (Or.inr ⟨by rfl, rfl⟩) ?_ ?_
 rotate_left
 ·
  simp only [Act.put, List.setIfInBounds_toArray, List.set_cons_zero, List.set_cons_succ, i64_w, i32_w]
  rfl
 refine pure_ (i := 7) (N := some 16) (v := ?_) (a' := ?_) #[true,true,true,true,true,true,true,true,false,false] rfl rfl (any_of HT_.out zk) (fun _ _ _ h => h) (Or.inl ⟨by rfl, ?_⟩) ?_ ?_
 rotate_left; exact zp; rotate_left; exact zq
 refine one_ (i := 8) (N := some 17) #[true,true,true,true,true,true,true,true,true,false] rfl rfl (one_of HT_.out zk) (by decide) (fun K hK => ?_)
 refine goes_ Try.func26 zk rfl #[.agg #[.slice A0_0 l0_0.length c0_0], .bool false] (by rfl) rfl rfl zA ?_
 with_reducible refine (impl_gardenCode.calls _ _ l0_0 false t108 _ ?side1 ?side2 A20.out).mono ?_
 (case side1 => exact zC (Kd.C_below HR0_0.out HB.out))
 (case side2 => exact HC0_0.out)
 rintro e w32 ⟨rfl, hb⟩
 refine ⟨_, rfl, ?_⟩
 have n_ := y2 (zb BK101.out hb) (below_step (zB) hb)
 clear BK101 HB
 obtain ⟨BK101, HB⟩ := n_
 (try clear hb)
 (try clear hb2)
 (try clear hk)
 (try clear hi)
 refine hK.out _ _ ((blk_cell BK101.out 0).trans rfl) (fun hHeld => ?_)
 clear hK K
 refine norm_ (a' := ?_) ?_ ?_
 rotate_left
 ·
  show Act.put _ (some 17) _ = _
  simp only [Act.put, List.setIfInBounds_toArray, List.set_cons_zero, List.set_cons_succ, i64_w, i32_w]
  rfl
 refine pure_ (i := 9) (N := some 8) (v := ?_) (a' := ?_) #[true,true,true,true,true,true,true,true,true,true] rfl rfl (any_of HT_.out zk) (fun _ _ _ h => h) (Or.inl ⟨by rfl, ?_⟩) ?_ ?_
 rotate_left; exact zp; rotate_left; exact zq
 refine done_ (done_of HT_.out zk) ?_
 try go_wp2
 go_ret2
 exact ⟨_, zE, zN, zB⟩
end Go.Proofs.Ytgmciimgmnnhmaa.P
end
section
namespace Go.Proofs.Ytgmciimgmnnhmaa.P
open Go.RowKit Go.Proofs.YtgmciimgmnnhmaaW.PrintWords Go.Proofs.YtgmciimgmnnhmaaW.PrintLast Go.Proofs.YtgmciimgmnnhmaaW.PrintMore
attribute [local go_sem] max2_int min2_int max_two min_two max_three min_three max_four min_four   -- for this text's walks alone
set_option linter.unusedVariables false
set_option linter.unusedSimpArgs false
def spec_l06Heights.l0 : Nat → List Int → Int → Option (Int)
  | 0, _, _ => none
  | k + 1, x1, x5 => if x5 < (x1.length : Int) then (if 0 ≤ x5 then ((spec_l01In.f (rd x1 x5) 0 100000).bind fun t104 => (if t104 = true then (spec_l06Heights.l0 k x1 (wrap64 (x5 + 1))) else (some 2))) else (none)) else (some 0)
def spec_l06Heights.f (k : Nat) (l0_0 : List Int) (l1 : List Int) : Option (Int) := (spec_l06Is.f k l0_0).bind fun t102 => (if t102 = true then (if (l1.length : Int) = (l0_0.length : Int) then (spec_l06Heights.l0 k l1 0) else (some 2)) else (some 1))
theorem spec_l06Heights.mono_l : ∀ k, (∀ y0 y1, LeO (spec_l06Heights.l0 k y0 y1) (spec_l06Heights.l0 (k + 1) y0 y1))
  | 0 => fun _ _ r h => by simp [spec_l06Heights.l0] at h
  | k + 1 => by
    have ih0 := spec_l06Heights.mono_l k
    · intro y0 y1
      unfold spec_l06Heights.l0
      repeat' first | (with_reducible exact ih0 _ _) | (with_reducible exact spec_l06Is.mono _ _) | (with_reducible exact LeO.refl _) | (with_reducible exact LeO.none _) | (with_reducible refine LeO.ite ?_ ?_) | (with_reducible refine LeO.bind ?_ (fun _ => ?_)) | exact ih0 _ _ | exact spec_l06Is.mono _ _ | exact LeO.none _ | refine LeO.ite ?_ ?_ | refine LeO.bind ?_ (fun _ => ?_)
theorem spec_l06Heights.mono : ∀ a0 a1 k, LeO (spec_l06Heights.f k a0 a1) (spec_l06Heights.f (k + 1) a0 a1) := by
  intro a0 a1 k
  have ih0 := spec_l06Heights.mono_l k
  unfold spec_l06Heights.f
  repeat' first | (with_reducible exact ih0 _ _) | (with_reducible exact spec_l06Is.mono _ _) | (with_reducible exact LeO.refl _) | (with_reducible exact LeO.none _) | (with_reducible refine LeO.ite ?_ ?_) | (with_reducible refine LeO.bind ?_ (fun _ => ?_)) | exact ih0 _ _ | exact spec_l06Is.mono _ _ | exact LeO.none _ | refine LeO.ite ?_ ?_ | refine LeO.bind ?_ (fun _ => ?_)
end Go.Proofs.Ytgmciimgmnnhmaa.P
end
