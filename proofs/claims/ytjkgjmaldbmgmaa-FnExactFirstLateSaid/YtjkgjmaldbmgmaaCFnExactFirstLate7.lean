/- The program's FirstLate returns what the reference's returns, for all jobs; no condition beside. -/
import Derived.Test.YtjkgjmaldbmgmaaCFnExactFirstLate6
section
namespace Go.Proofs.Ytjkgjmaldbmgmaa.P
open Go.RowKit Go.Proofs.YtjkgjmaldbmgmaaW.PrintWords Go.Proofs.YtjkgjmaldbmgmaaW.PrintLast Go.Proofs.YtjkgjmaldbmgmaaW.PrintMore
attribute [local go_sem] max2_int min2_int max_two min_two max_three min_three max_four min_four   -- for this text's walks alone
set_option linter.unusedVariables false
set_option linter.unusedSimpArgs false
def impl_FirstLate.f (k : Nat) (l0_0 : List Int) (l0_1 : List Int) (l0_2 : List Int) : Option (Int × Int × Int) := (impl_jobsCode.f k l0_0 l0_1 l0_2 true true).bind fun t102 => (if t102 = 0 then ((impl_Jobs_earliest.f k l0_0 l0_1 l0_2).bind fun bt103 => (if bt103.2 < 0 then (some (0, 0, 4)) else ((impl_length_int64.f bt103.1).bind fun t107 => (some (t107, bt103.2, 0))))) else (some (0, 0, t102)))
theorem impl_FirstLate.mono : ∀ a0 a1 a2 k, LeO (impl_FirstLate.f k a0 a1 a2) (impl_FirstLate.f (k + 1) a0 a1 a2) := by
  intro a0 a1 a2 k
  unfold impl_FirstLate.f
  repeat' first
      | (with_reducible exact impl_Jobs_earliest.mono _ _ _ _)
      | (with_reducible exact impl_jobsCode.mono _ _ _ _ _ _)
      | (with_reducible exact LeO.refl _)
      | (with_reducible exact LeO.none _)
      | (with_reducible refine LeO.ite ?_ ?_)
      | (with_reducible refine LeO.bind ?_ (fun _ => ?_))
      | exact impl_Jobs_earliest.mono _ _ _ _
      | exact impl_jobsCode.mono _ _ _ _ _ _
      | exact LeO.none _
      | refine LeO.ite ?_ ?_
      | refine LeO.bind ?_ (fun _ => ?_)
set_option maxHeartbeats 8000000 in
set_option maxRecDepth 100000 in
theorem impl_FirstLate.calls (k : Nat) (A0_0 : Option Addr) (c0_0 : Nat) (l0_0 : List Int) (A0_1 : Option Addr) (c0_1 : Nat) (l0_1 : List Int) (A0_2 : Option Addr) (c0_2 : Nat) (l0_2 : List Int) (r1 : Int) (r2 : Int) (r3 : Int) (w : World) (hr0_0 : Kd.C (Kd.int .i64) w A0_0 l0_0.length l0_0) (hc0_0 : l0_0.length ≤ c0_0) (hr0_1 : Kd.C (Kd.int .i64) w A0_1 l0_1.length l0_1) (hc0_1 : l0_1.length ≤ c0_1) (hr0_2 : Kd.C (Kd.int .i64) w A0_2 l0_2.length l0_2) (hc0_2 : l0_2.length ≤ c0_2) (h : impl_FirstLate.f k l0_0 l0_1 l0_2 = some (r1, r2, r3)) :
    Calls Try.prog 25 #[.agg #[.slice A0_0 l0_0.length c0_0, .slice A0_1 l0_1.length c0_1, .slice A0_2 l0_2.length c0_2]] w fun e w' => e = .returned (.tuple #[.int .i64 r1, .int .i64 r2, .int .i64 r3]) ∧ Below w.heap.size w w' := by
  have hu32 := Try.underlying32
  have HR0_0 := Aside0.mk hr0_0
  have HC0_0 := Aside0.mk hc0_0
  clear hr0_0 hc0_0
  have HR0_1 := Aside0.mk hr0_1
  have HC0_1 := Aside0.mk hc0_1
  clear hr0_1 hc0_1
  have HR0_2 := Aside0.mk hr0_2
  have HC0_2 := Aside0.mk hc0_2
  clear hr0_2 hc0_2
  have HB := Aside0.mk (Below.refl w.heap.size w)
  have H : ((impl_jobsCode.f k l0_0 l0_1 l0_2 true true).bind fun t102 => (if t102 = 0 then ((impl_Jobs_earliest.f k l0_0 l0_1 l0_2).bind fun bt103 => (if bt103.2 < 0 then (some (0, 0, 4)) else ((impl_length_int64.f bt103.1).bind fun t107 => (some (t107, bt103.2, 0))))) else (some (0, 0, t102)))) = some (r1, r2, r3) := h
  clear h
  replace H := Option.bind_eq_some_iff.mp H
  obtain ⟨t102, A20, H⟩ := H
  replace H : (if t102 = 0 then ((impl_Jobs_earliest.f k l0_0 l0_1 l0_2).bind fun bt103 => (if bt103.2 < 0 then (some (0, 0, 4)) else ((impl_length_int64.f bt103.1).bind fun t107 => (some (t107, bt103.2, 0))))) else (some (0, 0, t102))) = some (r1, r2, r3) := H
  have A2 := Aside0.mk A20
  clear A20
  by_cases c3 : t102 = 0
  · rw [if_pos c3] at H
    have c3b0 : (t102 == 0) = true := beq_iff_eq.mpr c3
    have c3b1 : (t102 != 0) = false := bne_eq_false_iff_eq.mpr c3
    clear c3
    replace H := Option.bind_eq_some_iff.mp H
    obtain ⟨⟨t103, t106⟩, A40, H⟩ := H
    replace H : (if t106 < 0 then (some (0, 0, 4)) else ((impl_length_int64.f t103).bind fun t107 => (some (t107, t106, 0)))) = some (r1, r2, r3) := H
    have A4 := Aside0.mk A40
    clear A40
    by_cases c5 : t106 < 0
    · rw [if_pos c5] at H
      have c5b0 : decide (t106 < 0) = true := decide_eq_true c5
      clear c5
      simp only [Option.some.injEq, Prod.mk.injEq] at H
      obtain ⟨rfl, rfl, rfl⟩ := H
      go_enter Try.func25, Try.ntmps25
      go_wp2_with (first | ((with_reducible refine gate_dst (N := 1) rfl ?_); refine box_event ?hg (N := 1) ?hd (cs := #[.slice A0_0 l0_0.length c0_0, .slice A0_1 l0_1.length c0_1, .slice A0_2 l0_2.length c0_2]) (t := 32) ?hr ?_; (case hd => rfl); (case hg => rfl); (case hr => first | (go_simp; done) | (go_simp; rfl)); intro gb101 hg w6 hbox hb; have n0_ := Aside0.mk (below_step (by repeat (first | (with_reducible first | exact HB.out | apply below_alloc | apply pw_below_drewN | apply below_drew1) | exact HB.out)) hb); have n1_ := Aside0.mk (hbox); have n2_ := Aside0.mk ((by rw [hg]; exact (below_size (by repeat (first | (with_reducible first | exact HB.out | apply below_alloc | apply pw_below_drewN | apply below_drew1) | exact HB.out))) : w.heap.size ≤ gb101)); have n3_ := Aside0.mk ((by rw [hg]; exact (below_size (by repeat (first | (with_reducible first | exact HB.out | apply below_alloc | apply pw_below_drewN | apply below_drew1) | exact HB.out))) : w.heap.size ≤ gb101)); clear HB; have HB := n0_; have BK101 := n1_; have GW101 := n2_; have GE101 := n3_; clear n0_ n1_ n2_ n3_; clear hb hbox hg; have hcz7_0 : w6.cell? ⟨gb101, 0, none⟩ = some (.slice A0_0 l0_0.length c0_0) := (blk_cell BK101.out 0).trans rfl; have hcz7_1 : w6.cell? ⟨gb101, 1, none⟩ = some (.slice A0_1 l0_1.length c0_1) := (blk_cell BK101.out 1).trans rfl; have hcz7_2 : w6.cell? ⟨gb101, 2, none⟩ = some (.slice A0_2 l0_2.length c0_2) := (blk_cell BK101.out 2).trans rfl; have hfz7_0 := blk_frozen BK101.out 0; have hfz7_1 := blk_frozen BK101.out 1; have hfz7_2 := blk_frozen BK101.out 2) | ((with_reducible refine gate_callee (f := 66) rfl ?_); refine goesL_ (some 9) rfl rfl Try.func66 (by kernel_rfl) rfl #[.agg #[.slice A0_0 l0_0.length c0_0, .slice A0_1 l0_1.length c0_1, .slice A0_2 l0_2.length c0_2], .bool true, .bool true] rfl (by (try simp only [List.map_toArray, List.map_cons, List.map_nil]); first | done | rfl | (simp only [List.length_drop, List.length_take]; rfl)) ?_; (with_reducible refine (impl_jobsCode.calls k _ _ l0_0 _ _ l0_1 _ _ l0_2 true true t102 _ ?side1 ?side2 ?side3 ?side4 ?side5 ?side6 A2.out).mono ?_); (case side1 => repeat (first | exact (Kd.C_below HR0_0.out HB.out) | (with_reducible refine Kd.C_alloc ?_ _) | (with_reducible refine Kd.C_drewN ?_ _) | (with_reducible refine Kd.C_drew ?_))); (case side2 => exact HC0_0.out); (case side3 => repeat (first | exact (Kd.C_below HR0_1.out HB.out) | (with_reducible refine Kd.C_alloc ?_ _) | (with_reducible refine Kd.C_drewN ?_ _) | (with_reducible refine Kd.C_drew ?_))); (case side4 => exact HC0_1.out); (case side5 => repeat (first | exact (Kd.C_below HR0_2.out HB.out) | (with_reducible refine Kd.C_alloc ?_ _) | (with_reducible refine Kd.C_drewN ?_ _) | (with_reducible refine Kd.C_drew ?_))); (case side6 => exact HC0_2.out); rintro e w8 ⟨rfl, hb⟩; refine ⟨_, rfl, ?_⟩; have n0_ := Aside0.mk (blk_below (g := gb101) (o := .cells #[.slice A0_0 l0_0.length c0_0, .slice A0_1 l0_1.length c0_1, .slice A0_2 l0_2.length c0_2] 32 (0, 0)) (by (with_reducible repeat (first | refine blk_drewN ?_ _ | refine blk_drew ?_ | refine blk_alloc ?_ _)); exact BK101.out) hb); have n1_ := Aside0.mk (below_step (by repeat (first | (with_reducible first | exact HB.out | apply below_alloc | apply pw_below_drewN | apply below_drew1 | refine below_set ?_ GE101.out) | exact HB.out)) hb); clear BK101; clear HB; have BK101 := n0_; have HB := n1_; clear n0_ n1_; (try clear hb); (try clear hb2); (try clear hk); (try clear hi); have hcz9_0 : w8.cell? ⟨gb101, 0, none⟩ = some (.slice A0_0 l0_0.length c0_0) := (blk_cell BK101.out 0).trans rfl; have hcz9_1 : w8.cell? ⟨gb101, 1, none⟩ = some (.slice A0_1 l0_1.length c0_1) := (blk_cell BK101.out 1).trans rfl; have hcz9_2 : w8.cell? ⟨gb101, 2, none⟩ = some (.slice A0_2 l0_2.length c0_2) := (blk_cell BK101.out 2).trans rfl; have hfz9_0 := blk_frozen BK101.out 0; have hfz9_1 := blk_frozen BK101.out 1; have hfz9_2 := blk_frozen BK101.out 2) | ((with_reducible refine gate_callee (f := 69) rfl ?_); refine goesL_ (some 15) rfl rfl Try.func69 (by kernel_rfl) rfl #[.agg #[.slice A0_0 l0_0.length c0_0, .slice A0_1 l0_1.length c0_1, .slice A0_2 l0_2.length c0_2]] rfl (by (try simp only [List.map_toArray, List.map_cons, List.map_nil]); first | done | rfl | (simp only [List.length_drop, List.length_take]; rfl)) ?_; (with_reducible refine (impl_Jobs_earliest.calls k _ _ l0_0 _ _ l0_1 _ _ l0_2 t103 t106 _ ?side1 ?side2 ?side3 ?side4 ?side5 ?side6 A4.out).mono ?_); (case side1 => repeat (first | exact (Kd.C_below HR0_0.out HB.out) | (with_reducible refine Kd.C_alloc ?_ _) | (with_reducible refine Kd.C_drewN ?_ _) | (with_reducible refine Kd.C_drew ?_))); (case side2 => exact HC0_0.out); (case side3 => repeat (first | exact (Kd.C_below HR0_1.out HB.out) | (with_reducible refine Kd.C_alloc ?_ _) | (with_reducible refine Kd.C_drewN ?_ _) | (with_reducible refine Kd.C_drew ?_))); (case side4 => exact HC0_1.out); (case side5 => repeat (first | exact (Kd.C_below HR0_2.out HB.out) | (with_reducible refine Kd.C_alloc ?_ _) | (with_reducible refine Kd.C_drewN ?_ _) | (with_reducible refine Kd.C_drew ?_))); (case side6 => exact HC0_2.out); rintro e w10 ⟨v104, rfl, ho0, hb⟩; refine ⟨_, rfl, ?_⟩; have n0_ := Aside0.mk (Kd.R_lower ho0 (below_size (by repeat (first | (with_reducible first | exact HB.out | apply below_alloc | apply pw_below_drewN | apply below_drew1 | refine below_set ?_ GE101.out) | exact HB.out)))); have n1_ := Aside0.mk (blk_below (g := gb101) (o := .cells #[.slice A0_0 l0_0.length c0_0, .slice A0_1 l0_1.length c0_1, .slice A0_2 l0_2.length c0_2] 32 (0, 0)) (by (with_reducible repeat (first | refine blk_drewN ?_ _ | refine blk_drew ?_ | refine blk_alloc ?_ _)); exact BK101.out) hb); have n2_ := Aside0.mk (below_step (by repeat (first | (with_reducible first | exact HB.out | apply below_alloc | apply pw_below_drewN | apply below_drew1 | refine below_set ?_ GE101.out) | exact HB.out)) hb); clear BK101; clear HB; have HO105 := n0_; have BK101 := n1_; have HB := n2_; clear n0_ n1_ n2_; (try clear hb); (try clear hb2); (try clear hk); (try clear hi); (try clear ho0)))
      go_ret3
      exact ⟨by first | rfl | (simp [errW_none, errW_some] <;> rfl) | (simp [*, errW_none, errW_some] <;> rfl), by repeat (first | (with_reducible first | exact HB.out | apply below_alloc | apply pw_below_drewN | apply below_drew1 | refine below_set ?_ GE101.out) | exact HB.out)⟩
    · rw [if_neg c5] at H
      have c5b0 : decide (t106 < 0) = false := decide_eq_false c5
      clear c5
      replace H := Option.bind_eq_some_iff.mp H
      obtain ⟨t107, A110, H⟩ := H
      replace H : (some (t107, t106, 0)) = some (r1, r2, r3) := H
      have A11 := Aside0.mk A110
      clear A110
      simp only [Option.some.injEq, Prod.mk.injEq] at H
      obtain ⟨rfl, rfl, rfl⟩ := H
      go_enter Try.func25, Try.ntmps25
      go_wp2_with (first | ((with_reducible refine gate_dst (N := 1) rfl ?_); refine box_event ?hg (N := 1) ?hd (cs := #[.slice A0_0 l0_0.length c0_0, .slice A0_1 l0_1.length c0_1, .slice A0_2 l0_2.length c0_2]) (t := 32) ?hr ?_; (case hd => rfl); (case hg => rfl); (case hr => first | (go_simp; done) | (go_simp; rfl)); intro gb101 hg w12 hbox hb; have n0_ := Aside0.mk (below_step (by repeat (first | (with_reducible first | exact HB.out | apply below_alloc | apply pw_below_drewN | apply below_drew1) | exact HB.out)) hb); have n1_ := Aside0.mk (hbox); have n2_ := Aside0.mk ((by rw [hg]; exact (below_size (by repeat (first | (with_reducible first | exact HB.out | apply below_alloc | apply pw_below_drewN | apply below_drew1) | exact HB.out))) : w.heap.size ≤ gb101)); have n3_ := Aside0.mk ((by rw [hg]; exact (below_size (by repeat (first | (with_reducible first | exact HB.out | apply below_alloc | apply pw_below_drewN | apply below_drew1) | exact HB.out))) : w.heap.size ≤ gb101)); clear HB; have HB := n0_; have BK101 := n1_; have GW101 := n2_; have GE101 := n3_; clear n0_ n1_ n2_ n3_; clear hb hbox hg; have hcz13_0 : w12.cell? ⟨gb101, 0, none⟩ = some (.slice A0_0 l0_0.length c0_0) := (blk_cell BK101.out 0).trans rfl; have hcz13_1 : w12.cell? ⟨gb101, 1, none⟩ = some (.slice A0_1 l0_1.length c0_1) := (blk_cell BK101.out 1).trans rfl; have hcz13_2 : w12.cell? ⟨gb101, 2, none⟩ = some (.slice A0_2 l0_2.length c0_2) := (blk_cell BK101.out 2).trans rfl; have hfz13_0 := blk_frozen BK101.out 0; have hfz13_1 := blk_frozen BK101.out 1; have hfz13_2 := blk_frozen BK101.out 2) | ((with_reducible refine gate_callee (f := 66) rfl ?_); refine goesL_ (some 9) rfl rfl Try.func66 (by kernel_rfl) rfl #[.agg #[.slice A0_0 l0_0.length c0_0, .slice A0_1 l0_1.length c0_1, .slice A0_2 l0_2.length c0_2], .bool true, .bool true] rfl (by (try simp only [List.map_toArray, List.map_cons, List.map_nil]); first | done | rfl | (simp only [List.length_drop, List.length_take]; rfl)) ?_; (with_reducible refine (impl_jobsCode.calls k _ _ l0_0 _ _ l0_1 _ _ l0_2 true true t102 _ ?side1 ?side2 ?side3 ?side4 ?side5 ?side6 A2.out).mono ?_); (case side1 => repeat (first | exact (Kd.C_below HR0_0.out HB.out) | (with_reducible refine Kd.C_alloc ?_ _) | (with_reducible refine Kd.C_drewN ?_ _) | (with_reducible refine Kd.C_drew ?_))); (case side2 => exact HC0_0.out); (case side3 => repeat (first | exact (Kd.C_below HR0_1.out HB.out) | (with_reducible refine Kd.C_alloc ?_ _) | (with_reducible refine Kd.C_drewN ?_ _) | (with_reducible refine Kd.C_drew ?_))); (case side4 => exact HC0_1.out); (case side5 => repeat (first | exact (Kd.C_below HR0_2.out HB.out) | (with_reducible refine Kd.C_alloc ?_ _) | (with_reducible refine Kd.C_drewN ?_ _) | (with_reducible refine Kd.C_drew ?_))); (case side6 => exact HC0_2.out); rintro e w14 ⟨rfl, hb⟩; refine ⟨_, rfl, ?_⟩; have n0_ := Aside0.mk (blk_below (g := gb101) (o := .cells #[.slice A0_0 l0_0.length c0_0, .slice A0_1 l0_1.length c0_1, .slice A0_2 l0_2.length c0_2] 32 (0, 0)) (by (with_reducible repeat (first | refine blk_drewN ?_ _ | refine blk_drew ?_ | refine blk_alloc ?_ _)); exact BK101.out) hb); have n1_ := Aside0.mk (below_step (by repeat (first | (with_reducible first | exact HB.out | apply below_alloc | apply pw_below_drewN | apply below_drew1 | refine below_set ?_ GE101.out) | exact HB.out)) hb); clear BK101; clear HB; have BK101 := n0_; have HB := n1_; clear n0_ n1_; (try clear hb); (try clear hb2); (try clear hk); (try clear hi); have hcz15_0 : w14.cell? ⟨gb101, 0, none⟩ = some (.slice A0_0 l0_0.length c0_0) := (blk_cell BK101.out 0).trans rfl; have hcz15_1 : w14.cell? ⟨gb101, 1, none⟩ = some (.slice A0_1 l0_1.length c0_1) := (blk_cell BK101.out 1).trans rfl; have hcz15_2 : w14.cell? ⟨gb101, 2, none⟩ = some (.slice A0_2 l0_2.length c0_2) := (blk_cell BK101.out 2).trans rfl; have hfz15_0 := blk_frozen BK101.out 0; have hfz15_1 := blk_frozen BK101.out 1; have hfz15_2 := blk_frozen BK101.out 2) | ((with_reducible refine gate_callee (f := 69) rfl ?_); refine goesL_ (some 15) rfl rfl Try.func69 (by kernel_rfl) rfl #[.agg #[.slice A0_0 l0_0.length c0_0, .slice A0_1 l0_1.length c0_1, .slice A0_2 l0_2.length c0_2]] rfl (by (try simp only [List.map_toArray, List.map_cons, List.map_nil]); first | done | rfl | (simp only [List.length_drop, List.length_take]; rfl)) ?_; (with_reducible refine (impl_Jobs_earliest.calls k _ _ l0_0 _ _ l0_1 _ _ l0_2 t103 t106 _ ?side1 ?side2 ?side3 ?side4 ?side5 ?side6 A4.out).mono ?_); (case side1 => repeat (first | exact (Kd.C_below HR0_0.out HB.out) | (with_reducible refine Kd.C_alloc ?_ _) | (with_reducible refine Kd.C_drewN ?_ _) | (with_reducible refine Kd.C_drew ?_))); (case side2 => exact HC0_0.out); (case side3 => repeat (first | exact (Kd.C_below HR0_1.out HB.out) | (with_reducible refine Kd.C_alloc ?_ _) | (with_reducible refine Kd.C_drewN ?_ _) | (with_reducible refine Kd.C_drew ?_))); (case side4 => exact HC0_1.out); (case side5 => repeat (first | exact (Kd.C_below HR0_2.out HB.out) | (with_reducible refine Kd.C_alloc ?_ _) | (with_reducible refine Kd.C_drewN ?_ _) | (with_reducible refine Kd.C_drew ?_))); (case side6 => exact HC0_2.out); rintro e w16 ⟨v104, rfl, ho0, hb⟩; refine ⟨_, rfl, ?_⟩; have n0_ := Aside0.mk (Kd.R_lower ho0 (below_size (by repeat (first | (with_reducible first | exact HB.out | apply below_alloc | apply pw_below_drewN | apply below_drew1 | refine below_set ?_ GE101.out) | exact HB.out)))); have n1_ := Aside0.mk (blk_below (g := gb101) (o := .cells #[.slice A0_0 l0_0.length c0_0, .slice A0_1 l0_1.length c0_1, .slice A0_2 l0_2.length c0_2] 32 (0, 0)) (by (with_reducible repeat (first | refine blk_drewN ?_ _ | refine blk_drew ?_ | refine blk_alloc ?_ _)); exact BK101.out) hb); have n2_ := Aside0.mk (below_step (by repeat (first | (with_reducible first | exact HB.out | apply below_alloc | apply pw_below_drewN | apply below_drew1 | refine below_set ?_ GE101.out) | exact HB.out)) hb); clear BK101; clear HB; have HO105 := n0_; have BK101 := n1_; have HB := n2_; clear n0_ n1_ n2_; (try clear hb); (try clear hb2); (try clear hk); (try clear hi); (try clear ho0); obtain ⟨Ao17, co17, eo17⟩ := Kd.R_slice HO105.out; subst eo17) | ((with_reducible refine gate_callee (f := 70) rfl ?_); refine goesL_ (some 21) rfl rfl Try.func70 (by kernel_rfl) rfl #[.slice Ao17 t103.length co17] rfl (by (try simp only [List.map_toArray, List.map_cons, List.map_nil]); first | done | rfl | (simp only [List.length_drop, List.length_take]; rfl)) ?_; (with_reducible refine (impl_length_int64.calls _ _ t103 t107 _ ?side1 ?side2 A11.out).mono ?_); (case side1 => repeat (first | exact (Kd.R_reads' HO105.out).2.2 | (with_reducible refine Kd.C_alloc ?_ _) | (with_reducible refine Kd.C_drewN ?_ _) | (with_reducible refine Kd.C_drew ?_))); (case side2 => exact (Kd.R_reads' HO105.out).2.1); rintro e w' ⟨rfl, ⟨nd, rfl⟩⟩; refine ⟨_, rfl, ?_⟩))
      go_ret3
      exact ⟨by first | rfl | (simp [errW_none, errW_some] <;> rfl) | (simp [*, errW_none, errW_some] <;> rfl), by repeat (first | (with_reducible first | exact HB.out | apply below_alloc | apply pw_below_drewN | apply below_drew1 | refine below_set ?_ GE101.out) | exact HB.out)⟩
  · rw [if_neg c3] at H
    have c3b0 : (t102 == 0) = false := beq_eq_false_iff_ne.mpr c3
    have c3b1 : (t102 != 0) = true := bne_iff_ne.mpr c3
    simp only [Option.some.injEq, Prod.mk.injEq] at H
    obtain ⟨rfl, rfl, rfl⟩ := H
    go_enter Try.func25, Try.ntmps25
    go_wp2_with (first | ((with_reducible refine gate_dst (N := 1) rfl ?_); refine box_event ?hg (N := 1) ?hd (cs := #[.slice A0_0 l0_0.length c0_0, .slice A0_1 l0_1.length c0_1, .slice A0_2 l0_2.length c0_2]) (t := 32) ?hr ?_; (case hd => rfl); (case hg => rfl); (case hr => first | (go_simp; done) | (go_simp; rfl)); intro gb101 hg w18 hbox hb; have n0_ := Aside0.mk (below_step (by repeat (first | (with_reducible first | exact HB.out | apply below_alloc | apply pw_below_drewN | apply below_drew1) | exact HB.out)) hb); have n1_ := Aside0.mk (hbox); have n2_ := Aside0.mk ((by rw [hg]; exact (below_size (by repeat (first | (with_reducible first | exact HB.out | apply below_alloc | apply pw_below_drewN | apply below_drew1) | exact HB.out))) : w.heap.size ≤ gb101)); have n3_ := Aside0.mk ((by rw [hg]; exact (below_size (by repeat (first | (with_reducible first | exact HB.out | apply below_alloc | apply pw_below_drewN | apply below_drew1) | exact HB.out))) : w.heap.size ≤ gb101)); clear HB; have HB := n0_; have BK101 := n1_; have GW101 := n2_; have GE101 := n3_; clear n0_ n1_ n2_ n3_; clear hb hbox hg; have hcz19_0 : w18.cell? ⟨gb101, 0, none⟩ = some (.slice A0_0 l0_0.length c0_0) := (blk_cell BK101.out 0).trans rfl; have hcz19_1 : w18.cell? ⟨gb101, 1, none⟩ = some (.slice A0_1 l0_1.length c0_1) := (blk_cell BK101.out 1).trans rfl; have hcz19_2 : w18.cell? ⟨gb101, 2, none⟩ = some (.slice A0_2 l0_2.length c0_2) := (blk_cell BK101.out 2).trans rfl; have hfz19_0 := blk_frozen BK101.out 0; have hfz19_1 := blk_frozen BK101.out 1; have hfz19_2 := blk_frozen BK101.out 2) | ((with_reducible refine gate_callee (f := 66) rfl ?_); refine goesL_ (some 9) rfl rfl Try.func66 (by kernel_rfl) rfl #[.agg #[.slice A0_0 l0_0.length c0_0, .slice A0_1 l0_1.length c0_1, .slice A0_2 l0_2.length c0_2], .bool true, .bool true] rfl (by (try simp only [List.map_toArray, List.map_cons, List.map_nil]); first | done | rfl | (simp only [List.length_drop, List.length_take]; rfl)) ?_; (with_reducible refine (impl_jobsCode.calls k _ _ l0_0 _ _ l0_1 _ _ l0_2 true true t102 _ ?side1 ?side2 ?side3 ?side4 ?side5 ?side6 A2.out).mono ?_); (case side1 => repeat (first | exact (Kd.C_below HR0_0.out HB.out) | (with_reducible refine Kd.C_alloc ?_ _) | (with_reducible refine Kd.C_drewN ?_ _) | (with_reducible refine Kd.C_drew ?_))); (case side2 => exact HC0_0.out); (case side3 => repeat (first | exact (Kd.C_below HR0_1.out HB.out) | (with_reducible refine Kd.C_alloc ?_ _) | (with_reducible refine Kd.C_drewN ?_ _) | (with_reducible refine Kd.C_drew ?_))); (case side4 => exact HC0_1.out); (case side5 => repeat (first | exact (Kd.C_below HR0_2.out HB.out) | (with_reducible refine Kd.C_alloc ?_ _) | (with_reducible refine Kd.C_drewN ?_ _) | (with_reducible refine Kd.C_drew ?_))); (case side6 => exact HC0_2.out); rintro e w20 ⟨rfl, hb⟩; refine ⟨_, rfl, ?_⟩; have n0_ := Aside0.mk (blk_below (g := gb101) (o := .cells #[.slice A0_0 l0_0.length c0_0, .slice A0_1 l0_1.length c0_1, .slice A0_2 l0_2.length c0_2] 32 (0, 0)) (by (with_reducible repeat (first | refine blk_drewN ?_ _ | refine blk_drew ?_ | refine blk_alloc ?_ _)); exact BK101.out) hb); have n1_ := Aside0.mk (below_step (by repeat (first | (with_reducible first | exact HB.out | apply below_alloc | apply pw_below_drewN | apply below_drew1 | refine below_set ?_ GE101.out) | exact HB.out)) hb); clear BK101; clear HB; have BK101 := n0_; have HB := n1_; clear n0_ n1_; (try clear hb); (try clear hb2); (try clear hk); (try clear hi)))
    go_ret3
    exact ⟨by first | rfl | (simp [errW_none, errW_some] <;> rfl) | (simp [*, errW_none, errW_some] <;> rfl), by repeat (first | (with_reducible first | exact HB.out | apply below_alloc | apply pw_below_drewN | apply below_drew1 | refine below_set ?_ GE101.out) | exact HB.out)⟩
end Go.Proofs.Ytjkgjmaldbmgmaa.P
end
section
namespace Go.Proofs.Ytjkgjmaldbmgmaa.P
open Go.RowKit Go.Proofs.YtjkgjmaldbmgmaaW.PrintWords Go.Proofs.YtjkgjmaldbmgmaaW.PrintLast Go.Proofs.YtjkgjmaldbmgmaaW.PrintMore
attribute [local go_sem] max2_int min2_int max_two min_two max_three min_three max_four min_four   -- for this text's walks alone
set_option linter.unusedVariables false
set_option linter.unusedSimpArgs false
def laws_FnExactFirstLate.j0 : Nat → Bool → List Int → List Int → List Int → List Int → List Int → List Int → Option (Bool)
  | 0, _, _, _, _, _, _, _ => none
  | k + 1, x43, x102000, x102001, x102002, x125000, x125001, x125002 => if x43 = true then (some false) else ((laws_toJobs.f k x102000 x102001 x102002).bind fun bt128 => ((laws_eqJobs.f k x125000 x125001 x125002 bt128.1 bt128.2.1 bt128.2.2).bind fun t137 => (if t137 = true then (some true) else (some false))))
def laws_FnExactFirstLate.f (k : Nat) (l0_0 : List Int) (l0_1 : List Int) (l0_2 : List Int) : Option (Bool) := (laws_szJobs.f l0_0 l0_1 l0_2 1048576).bind fun t102 => (if t102 < 0 then (some true) else ((laws_toJobs.f k l0_0 l0_1 l0_2).bind fun bt103 => ((spec_FirstLate.f k bt103.1 bt103.2.1 bt103.2.2).bind fun bt112 => ((laws_toJobs.f k l0_0 l0_1 l0_2).bind fun bt115 => ((impl_FirstLate.f k bt115.1 bt115.2.1 bt115.2.2).bind fun bt125 => (if bt125.1 = bt112.1 then (if bt125.2.1 = bt112.2.1 then (laws_FnExactFirstLate.j0 k (bt125.2.2 != bt112.2.2) l0_0 l0_1 l0_2 bt115.1 bt115.2.1 bt115.2.2) else (laws_FnExactFirstLate.j0 k true l0_0 l0_1 l0_2 bt115.1 bt115.2.1 bt115.2.2)) else (laws_FnExactFirstLate.j0 k true l0_0 l0_1 l0_2 bt115.1 bt115.2.1 bt115.2.2)))))))
theorem laws_FnExactFirstLate.mono_l : ∀ k, (∀ y0 y1 y2 y3 y4 y5 y6, LeO (laws_FnExactFirstLate.j0 k y0 y1 y2 y3 y4 y5 y6) (laws_FnExactFirstLate.j0 (k + 1) y0 y1 y2 y3 y4 y5 y6))
  | 0 => fun _ _ _ _ _ _ _ r h => by simp [laws_FnExactFirstLate.j0] at h
  | k + 1 => by
    have ih0 := laws_FnExactFirstLate.mono_l k
    · intro y0 y1 y2 y3 y4 y5 y6
      unfold laws_FnExactFirstLate.j0
      repeat' first
      | (with_reducible exact ih0 _ _ _ _ _ _ _)
      | (with_reducible exact impl_FirstLate.mono _ _ _ _)
      | (with_reducible exact laws_eqJobs.mono _ _ _ _ _ _ _)
      | (with_reducible exact laws_toJobs.mono _ _ _ _)
      | (with_reducible exact spec_FirstLate.mono _ _ _ _)
      | (with_reducible exact LeO.refl _)
      | (with_reducible exact LeO.none _)
      | (with_reducible refine LeO.ite ?_ ?_)
      | (with_reducible refine LeO.bind ?_ (fun _ => ?_))
      | exact ih0 _ _ _ _ _ _ _
      | exact impl_FirstLate.mono _ _ _ _
      | exact laws_eqJobs.mono _ _ _ _ _ _ _
      | exact laws_toJobs.mono _ _ _ _
      | exact spec_FirstLate.mono _ _ _ _
      | exact LeO.none _
      | refine LeO.ite ?_ ?_
      | refine LeO.bind ?_ (fun _ => ?_)
theorem laws_FnExactFirstLate.mono : ∀ a0 a1 a2 k, LeO (laws_FnExactFirstLate.f k a0 a1 a2) (laws_FnExactFirstLate.f (k + 1) a0 a1 a2) := by
  intro a0 a1 a2 k
  have ih0 := laws_FnExactFirstLate.mono_l k
  unfold laws_FnExactFirstLate.f
  repeat' first
      | (with_reducible exact ih0 _ _ _ _ _ _ _)
      | (with_reducible exact impl_FirstLate.mono _ _ _ _)
      | (with_reducible exact laws_eqJobs.mono _ _ _ _ _ _ _)
      | (with_reducible exact laws_toJobs.mono _ _ _ _)
      | (with_reducible exact spec_FirstLate.mono _ _ _ _)
      | (with_reducible exact LeO.refl _)
      | (with_reducible exact LeO.none _)
      | (with_reducible refine LeO.ite ?_ ?_)
      | (with_reducible refine LeO.bind ?_ (fun _ => ?_))
      | exact ih0 _ _ _ _ _ _ _
      | exact impl_FirstLate.mono _ _ _ _
      | exact laws_eqJobs.mono _ _ _ _ _ _ _
      | exact laws_toJobs.mono _ _ _ _
      | exact spec_FirstLate.mono _ _ _ _
      | exact LeO.none _
      | refine LeO.ite ?_ ?_
      | refine LeO.bind ?_ (fun _ => ?_)
set_option maxHeartbeats 8000000 in
set_option maxRecDepth 100000 in
theorem laws_FnExactFirstLate.calls (k : Nat) (A0_0 : Option Addr) (c0_0 : Nat) (l0_0 : List Int) (A0_1 : Option Addr) (c0_1 : Nat) (l0_1 : List Int) (A0_2 : Option Addr) (c0_2 : Nat) (l0_2 : List Int) (r : Bool) (w : World) (hr0_0 : Kd.C (Kd.int .i64) w A0_0 l0_0.length l0_0) (hc0_0 : l0_0.length ≤ c0_0) (hr0_1 : Kd.C (Kd.int .i64) w A0_1 l0_1.length l0_1) (hc0_1 : l0_1.length ≤ c0_1) (hr0_2 : Kd.C (Kd.int .i64) w A0_2 l0_2.length l0_2) (hc0_2 : l0_2.length ≤ c0_2) (h : laws_FnExactFirstLate.f k l0_0 l0_1 l0_2 = some r) :
    Calls Try.prog 5 #[.agg #[.slice A0_0 l0_0.length c0_0, .slice A0_1 l0_1.length c0_1, .slice A0_2 l0_2.length c0_2]] w fun e w' => e = .returned (.bool r) ∧ Below w.heap.size w w' := by
  have hu29 := Try.underlying29
  have hu32 := Try.underlying32
  have HR0_0 := Aside0.mk hr0_0
  have HC0_0 := Aside0.mk hc0_0
  clear hr0_0 hc0_0
  have HR0_1 := Aside0.mk hr0_1
  have HC0_1 := Aside0.mk hc0_1
  clear hr0_1 hc0_1
  have HR0_2 := Aside0.mk hr0_2
  have HC0_2 := Aside0.mk hc0_2
  clear hr0_2 hc0_2
  have HB := Aside0.mk (Below.refl w.heap.size w)
  have H : ((laws_szJobs.f l0_0 l0_1 l0_2 1048576).bind fun t102 => (if t102 < 0 then (some true) else ((laws_toJobs.f k l0_0 l0_1 l0_2).bind fun bt103 => ((spec_FirstLate.f k bt103.1 bt103.2.1 bt103.2.2).bind fun bt112 => ((laws_toJobs.f k l0_0 l0_1 l0_2).bind fun bt115 => ((impl_FirstLate.f k bt115.1 bt115.2.1 bt115.2.2).bind fun bt125 => (if bt125.1 = bt112.1 then (if bt125.2.1 = bt112.2.1 then (laws_FnExactFirstLate.j0 k (bt125.2.2 != bt112.2.2) l0_0 l0_1 l0_2 bt115.1 bt115.2.1 bt115.2.2) else (laws_FnExactFirstLate.j0 k true l0_0 l0_1 l0_2 bt115.1 bt115.2.1 bt115.2.2)) else (laws_FnExactFirstLate.j0 k true l0_0 l0_1 l0_2 bt115.1 bt115.2.1 bt115.2.2)))))))) = some r := h
  clear h
  replace H := Option.bind_eq_some_iff.mp H
  obtain ⟨t102, A20, H⟩ := H
  replace H : (if t102 < 0 then (some true) else ((laws_toJobs.f k l0_0 l0_1 l0_2).bind fun bt103 => ((spec_FirstLate.f k bt103.1 bt103.2.1 bt103.2.2).bind fun bt112 => ((laws_toJobs.f k l0_0 l0_1 l0_2).bind fun bt115 => ((impl_FirstLate.f k bt115.1 bt115.2.1 bt115.2.2).bind fun bt125 => (if bt125.1 = bt112.1 then (if bt125.2.1 = bt112.2.1 then (laws_FnExactFirstLate.j0 k (bt125.2.2 != bt112.2.2) l0_0 l0_1 l0_2 bt115.1 bt115.2.1 bt115.2.2) else (laws_FnExactFirstLate.j0 k true l0_0 l0_1 l0_2 bt115.1 bt115.2.1 bt115.2.2)) else (laws_FnExactFirstLate.j0 k true l0_0 l0_1 l0_2 bt115.1 bt115.2.1 bt115.2.2))))))) = some r := H
  have A2 := Aside0.mk A20
  clear A20
  by_cases c3 : t102 < 0
  · rw [if_pos c3] at H
    have c3b0 : decide (t102 < 0) = true := decide_eq_true c3
    clear c3
    obtain rfl := Option.some.inj H
    go_enter Try.func5, Try.ntmps5
    go_wp2_with (first | ((with_reducible refine gate_dst (N := 1) rfl ?_); refine box_event ?hg (N := 1) ?hd (cs := #[.slice A0_0 l0_0.length c0_0, .slice A0_1 l0_1.length c0_1, .slice A0_2 l0_2.length c0_2]) (t := 29) ?hr ?_; (case hd => rfl); (case hg => rfl); (case hr => first | (go_simp; done) | (go_simp; rfl)); intro gb101 hg w4 hbox hb; have n0_ := Aside0.mk (below_step (by repeat (first | (with_reducible first | exact HB.out | apply below_alloc | apply pw_below_drewN | apply below_drew1) | exact HB.out)) hb); have n1_ := Aside0.mk (hbox); have n2_ := Aside0.mk ((by rw [hg]; exact (below_size (by repeat (first | (with_reducible first | exact HB.out | apply below_alloc | apply pw_below_drewN | apply below_drew1) | exact HB.out))) : w.heap.size ≤ gb101)); have n3_ := Aside0.mk ((by rw [hg]; exact (below_size (by repeat (first | (with_reducible first | exact HB.out | apply below_alloc | apply pw_below_drewN | apply below_drew1) | exact HB.out))) : w.heap.size ≤ gb101)); clear HB; have HB := n0_; have BK101 := n1_; have GW101 := n2_; have GE101 := n3_; clear n0_ n1_ n2_ n3_; clear hb hbox hg; have hcz5_0 : w4.cell? ⟨gb101, 0, none⟩ = some (.slice A0_0 l0_0.length c0_0) := (blk_cell BK101.out 0).trans rfl; have hcz5_1 : w4.cell? ⟨gb101, 1, none⟩ = some (.slice A0_1 l0_1.length c0_1) := (blk_cell BK101.out 1).trans rfl; have hcz5_2 : w4.cell? ⟨gb101, 2, none⟩ = some (.slice A0_2 l0_2.length c0_2) := (blk_cell BK101.out 2).trans rfl; have hfz5_0 := blk_frozen BK101.out 0; have hfz5_1 := blk_frozen BK101.out 1; have hfz5_2 := blk_frozen BK101.out 2) | ((with_reducible refine gate_callee (f := 19) rfl ?_); refine goesL_ (some 13) rfl rfl Try.func19 (by kernel_rfl) rfl #[.agg #[.slice A0_0 l0_0.length c0_0, .slice A0_1 l0_1.length c0_1, .slice A0_2 l0_2.length c0_2], .int .i64 1048576] rfl (by (try simp only [List.map_toArray, List.map_cons, List.map_nil]); first | done | rfl | (simp only [List.length_drop, List.length_take]; rfl)) ?_; (with_reducible refine (laws_szJobs.calls _ _ l0_0 _ _ l0_1 _ _ l0_2 1048576 t102 _ ?side1 ?side2 ?side3 ?side4 ?side5 ?side6 A2.out).mono ?_); (case side1 => repeat (first | exact (Kd.C_below HR0_0.out HB.out) | (with_reducible refine Kd.C_alloc ?_ _) | (with_reducible refine Kd.C_drewN ?_ _) | (with_reducible refine Kd.C_drew ?_))); (case side2 => exact HC0_0.out); (case side3 => repeat (first | exact (Kd.C_below HR0_1.out HB.out) | (with_reducible refine Kd.C_alloc ?_ _) | (with_reducible refine Kd.C_drewN ?_ _) | (with_reducible refine Kd.C_drew ?_))); (case side4 => exact HC0_1.out); (case side5 => repeat (first | exact (Kd.C_below HR0_2.out HB.out) | (with_reducible refine Kd.C_alloc ?_ _) | (with_reducible refine Kd.C_drewN ?_ _) | (with_reducible refine Kd.C_drew ?_))); (case side6 => exact HC0_2.out); rintro e w6 ⟨rfl, hb⟩; refine ⟨_, rfl, ?_⟩; have n0_ := Aside0.mk (blk_below (g := gb101) (o := .cells #[.slice A0_0 l0_0.length c0_0, .slice A0_1 l0_1.length c0_1, .slice A0_2 l0_2.length c0_2] 29 (0, 0)) (by (with_reducible repeat (first | refine blk_drewN ?_ _ | refine blk_drew ?_ | refine blk_alloc ?_ _)); exact BK101.out) hb); have n1_ := Aside0.mk (below_step (by repeat (first | (with_reducible first | exact HB.out | apply below_alloc | apply pw_below_drewN | apply below_drew1 | refine below_set ?_ GE101.out) | exact HB.out)) hb); clear BK101; clear HB; have BK101 := n0_; have HB := n1_; clear n0_ n1_; (try clear hb); (try clear hb2); (try clear hk); (try clear hi)))
    go_ret
    exact ⟨by first | rfl | (simp [errW_none, errW_some] <;> rfl) | (simp [*, errW_none, errW_some] <;> rfl), by repeat (first | (with_reducible first | exact HB.out | apply below_alloc | apply pw_below_drewN | apply below_drew1 | refine below_set ?_ GE101.out) | exact HB.out)⟩
  · rw [if_neg c3] at H
    have c3b0 : decide (t102 < 0) = false := decide_eq_false c3
    clear c3
    replace H := Option.bind_eq_some_iff.mp H
    obtain ⟨⟨t103, t106, t109⟩, A70, H⟩ := H
    replace H : ((spec_FirstLate.f k t103 t106 t109).bind fun bt112 => ((laws_toJobs.f k l0_0 l0_1 l0_2).bind fun bt115 => ((impl_FirstLate.f k bt115.1 bt115.2.1 bt115.2.2).bind fun bt125 => (if bt125.1 = bt112.1 then (if bt125.2.1 = bt112.2.1 then (laws_FnExactFirstLate.j0 k (bt125.2.2 != bt112.2.2) l0_0 l0_1 l0_2 bt115.1 bt115.2.1 bt115.2.2) else (laws_FnExactFirstLate.j0 k true l0_0 l0_1 l0_2 bt115.1 bt115.2.1 bt115.2.2)) else (laws_FnExactFirstLate.j0 k true l0_0 l0_1 l0_2 bt115.1 bt115.2.1 bt115.2.2))))) = some r := H
    have A7 := Aside0.mk A70
    clear A70
    replace H := Option.bind_eq_some_iff.mp H
    obtain ⟨⟨t112, t113, t114⟩, A80, H⟩ := H
    replace H : ((laws_toJobs.f k l0_0 l0_1 l0_2).bind fun bt115 => ((impl_FirstLate.f k bt115.1 bt115.2.1 bt115.2.2).bind fun bt125 => (if bt125.1 = t112 then (if bt125.2.1 = t113 then (laws_FnExactFirstLate.j0 k (bt125.2.2 != t114) l0_0 l0_1 l0_2 bt115.1 bt115.2.1 bt115.2.2) else (laws_FnExactFirstLate.j0 k true l0_0 l0_1 l0_2 bt115.1 bt115.2.1 bt115.2.2)) else (laws_FnExactFirstLate.j0 k true l0_0 l0_1 l0_2 bt115.1 bt115.2.1 bt115.2.2)))) = some r := H
    have A8 := Aside0.mk A80
    clear A80
    replace H := Option.bind_eq_some_iff.mp H
    obtain ⟨⟨t115, t118, t121⟩, A90, H⟩ := H
    replace H : ((impl_FirstLate.f k t115 t118 t121).bind fun bt125 => (if bt125.1 = t112 then (if bt125.2.1 = t113 then (laws_FnExactFirstLate.j0 k (bt125.2.2 != t114) l0_0 l0_1 l0_2 t115 t118 t121) else (laws_FnExactFirstLate.j0 k true l0_0 l0_1 l0_2 t115 t118 t121)) else (laws_FnExactFirstLate.j0 k true l0_0 l0_1 l0_2 t115 t118 t121))) = some r := H
    have A9 := Aside0.mk A90
    clear A90
    replace H := Option.bind_eq_some_iff.mp H
    obtain ⟨⟨t125, t126, t127⟩, A100, H⟩ := H
    replace H : (if t125 = t112 then (if t126 = t113 then (laws_FnExactFirstLate.j0 k (t127 != t114) l0_0 l0_1 l0_2 t115 t118 t121) else (laws_FnExactFirstLate.j0 k true l0_0 l0_1 l0_2 t115 t118 t121)) else (laws_FnExactFirstLate.j0 k true l0_0 l0_1 l0_2 t115 t118 t121)) = some r := H
    have A10 := Aside0.mk A100
    clear A100
    have HC11 := Aside0.mk H
    clear H
    go_enter Try.func5, Try.ntmps5
    go_upto_region 8 with (first | ((with_reducible refine gate_dst (N := 1) rfl ?_); refine box_event ?hg (N := 1) ?hd (cs := #[.slice A0_0 l0_0.length c0_0, .slice A0_1 l0_1.length c0_1, .slice A0_2 l0_2.length c0_2]) (t := 29) ?hr ?_; (case hd => rfl); (case hg => rfl); (case hr => first | (go_simp; done) | (go_simp; rfl)); intro gb101 hg w12 hbox hb; have n0_ := Aside0.mk (below_step (by repeat (first | (with_reducible first | exact HB.out | apply below_alloc | apply pw_below_drewN | apply below_drew1) | exact HB.out)) hb); have n1_ := Aside0.mk (hbox); have n2_ := Aside0.mk ((by rw [hg]; exact (below_size (by repeat (first | (with_reducible first | exact HB.out | apply below_alloc | apply pw_below_drewN | apply below_drew1) | exact HB.out))) : w.heap.size ≤ gb101)); have n3_ := Aside0.mk ((by rw [hg]; exact (below_size (by repeat (first | (with_reducible first | exact HB.out | apply below_alloc | apply pw_below_drewN | apply below_drew1) | exact HB.out))) : w.heap.size ≤ gb101)); clear HB; have HB := n0_; have BK101 := n1_; have GW101 := n2_; have GE101 := n3_; clear n0_ n1_ n2_ n3_; clear hb hbox hg; have hcz13_0 : w12.cell? ⟨gb101, 0, none⟩ = some (.slice A0_0 l0_0.length c0_0) := (blk_cell BK101.out 0).trans rfl; have hcz13_1 : w12.cell? ⟨gb101, 1, none⟩ = some (.slice A0_1 l0_1.length c0_1) := (blk_cell BK101.out 1).trans rfl; have hcz13_2 : w12.cell? ⟨gb101, 2, none⟩ = some (.slice A0_2 l0_2.length c0_2) := (blk_cell BK101.out 2).trans rfl; have hfz13_0 := blk_frozen BK101.out 0; have hfz13_1 := blk_frozen BK101.out 1; have hfz13_2 := blk_frozen BK101.out 2) | ((with_reducible refine gate_callee (f := 19) rfl ?_); refine goesL_ (some 13) rfl rfl Try.func19 (by kernel_rfl) rfl #[.agg #[.slice A0_0 l0_0.length c0_0, .slice A0_1 l0_1.length c0_1, .slice A0_2 l0_2.length c0_2], .int .i64 1048576] rfl (by (try simp only [List.map_toArray, List.map_cons, List.map_nil]); first | done | rfl | (simp only [List.length_drop, List.length_take]; rfl)) ?_; (with_reducible refine (laws_szJobs.calls _ _ l0_0 _ _ l0_1 _ _ l0_2 1048576 t102 _ ?side1 ?side2 ?side3 ?side4 ?side5 ?side6 A2.out).mono ?_); (case side1 => repeat (first | exact (Kd.C_below HR0_0.out HB.out) | (with_reducible refine Kd.C_alloc ?_ _) | (with_reducible refine Kd.C_drewN ?_ _) | (with_reducible refine Kd.C_drew ?_))); (case side2 => exact HC0_0.out); (case side3 => repeat (first | exact (Kd.C_below HR0_1.out HB.out) | (with_reducible refine Kd.C_alloc ?_ _) | (with_reducible refine Kd.C_drewN ?_ _) | (with_reducible refine Kd.C_drew ?_))); (case side4 => exact HC0_1.out); (case side5 => repeat (first | exact (Kd.C_below HR0_2.out HB.out) | (with_reducible refine Kd.C_alloc ?_ _) | (with_reducible refine Kd.C_drewN ?_ _) | (with_reducible refine Kd.C_drew ?_))); (case side6 => exact HC0_2.out); rintro e w14 ⟨rfl, hb⟩; refine ⟨_, rfl, ?_⟩; have n0_ := Aside0.mk (blk_below (g := gb101) (o := .cells #[.slice A0_0 l0_0.length c0_0, .slice A0_1 l0_1.length c0_1, .slice A0_2 l0_2.length c0_2] 29 (0, 0)) (by (with_reducible repeat (first | refine blk_drewN ?_ _ | refine blk_drew ?_ | refine blk_alloc ?_ _)); exact BK101.out) hb); have n1_ := Aside0.mk (below_step (by repeat (first | (with_reducible first | exact HB.out | apply below_alloc | apply pw_below_drewN | apply below_drew1 | refine below_set ?_ GE101.out) | exact HB.out)) hb); clear BK101; clear HB; have BK101 := n0_; have HB := n1_; clear n0_ n1_; (try clear hb); (try clear hb2); (try clear hk); (try clear hi); have hcz15_0 : w14.cell? ⟨gb101, 0, none⟩ = some (.slice A0_0 l0_0.length c0_0) := (blk_cell BK101.out 0).trans rfl; have hcz15_1 : w14.cell? ⟨gb101, 1, none⟩ = some (.slice A0_1 l0_1.length c0_1) := (blk_cell BK101.out 1).trans rfl; have hcz15_2 : w14.cell? ⟨gb101, 2, none⟩ = some (.slice A0_2 l0_2.length c0_2) := (blk_cell BK101.out 2).trans rfl; have hfz15_0 := blk_frozen BK101.out 0; have hfz15_1 := blk_frozen BK101.out 1; have hfz15_2 := blk_frozen BK101.out 2) | ((with_reducible refine gate_callee (f := 21) rfl ?_); refine goesL_ (some 18) rfl rfl Try.func21 (by kernel_rfl) rfl #[.agg #[.slice A0_0 l0_0.length c0_0, .slice A0_1 l0_1.length c0_1, .slice A0_2 l0_2.length c0_2]] rfl (by (try simp only [List.map_toArray, List.map_cons, List.map_nil]); first | done | rfl | (simp only [List.length_drop, List.length_take]; rfl)) ?_; (with_reducible refine (laws_toJobs.calls k _ _ l0_0 _ _ l0_1 _ _ l0_2 t103 t106 t109 _ ?side1 ?side2 ?side3 ?side4 ?side5 ?side6 A7.out).mono ?_); (case side1 => repeat (first | exact (Kd.C_below HR0_0.out HB.out) | (with_reducible refine Kd.C_alloc ?_ _) | (with_reducible refine Kd.C_drewN ?_ _) | (with_reducible refine Kd.C_drew ?_))); (case side2 => exact HC0_0.out); (case side3 => repeat (first | exact (Kd.C_below HR0_1.out HB.out) | (with_reducible refine Kd.C_alloc ?_ _) | (with_reducible refine Kd.C_drewN ?_ _) | (with_reducible refine Kd.C_drew ?_))); (case side4 => exact HC0_1.out); (case side5 => repeat (first | exact (Kd.C_below HR0_2.out HB.out) | (with_reducible refine Kd.C_alloc ?_ _) | (with_reducible refine Kd.C_drewN ?_ _) | (with_reducible refine Kd.C_drew ?_))); (case side6 => exact HC0_2.out); rintro e w16 ⟨v104, v107, v110, rfl, ho0, ho1, ho2, hb⟩; refine ⟨_, rfl, ?_⟩; have n0_ := Aside0.mk (Kd.R_lower ho0 (below_size (by repeat (first | (with_reducible first | exact HB.out | apply below_alloc | apply pw_below_drewN | apply below_drew1 | refine below_set ?_ GE101.out) | exact HB.out)))); have n1_ := Aside0.mk (Kd.R_lower ho1 (below_size (by repeat (first | (with_reducible first | exact HB.out | apply below_alloc | apply pw_below_drewN | apply below_drew1 | refine below_set ?_ GE101.out) | exact HB.out)))); have n2_ := Aside0.mk (Kd.R_lower ho2 (below_size (by repeat (first | (with_reducible first | exact HB.out | apply below_alloc | apply pw_below_drewN | apply below_drew1 | refine below_set ?_ GE101.out) | exact HB.out)))); have n3_ := Aside0.mk (blk_below (g := gb101) (o := .cells #[.slice A0_0 l0_0.length c0_0, .slice A0_1 l0_1.length c0_1, .slice A0_2 l0_2.length c0_2] 29 (0, 0)) (by (with_reducible repeat (first | refine blk_drewN ?_ _ | refine blk_drew ?_ | refine blk_alloc ?_ _)); exact BK101.out) hb); have n4_ := Aside0.mk (below_step (by repeat (first | (with_reducible first | exact HB.out | apply below_alloc | apply pw_below_drewN | apply below_drew1 | refine below_set ?_ GE101.out) | exact HB.out)) hb); clear BK101; clear HB; have HO105 := n0_; have HO108 := n1_; have HO111 := n2_; have BK101 := n3_; have HB := n4_; clear n0_ n1_ n2_ n3_ n4_; (try clear hb); (try clear hb2); (try clear hk); (try clear hi); (try clear ho0); (try clear ho1); (try clear ho2); obtain ⟨Ao17, co17, eo17⟩ := Kd.R_slice HO105.out; subst eo17; obtain ⟨Ao18, co18, eo18⟩ := Kd.R_slice HO108.out; subst eo18; obtain ⟨Ao19, co19, eo19⟩ := Kd.R_slice HO111.out; subst eo19) | ((with_reducible refine gate_callee (f := 24) rfl ?_); refine goesL_ (some 19) rfl rfl Try.func24 (by kernel_rfl) rfl #[.agg #[.slice Ao17 t103.length co17, .slice Ao18 t106.length co18, .slice Ao19 t109.length co19]] rfl (by (try simp only [List.map_toArray, List.map_cons, List.map_nil]); first | done | rfl | (simp only [List.length_drop, List.length_take]; rfl)) ?_; (with_reducible refine (spec_FirstLate.calls k _ _ t103 _ _ t106 _ _ t109 t112 t113 t114 _ ?side1 ?side2 ?side3 ?side4 ?side5 ?side6 A8.out).mono ?_); (case side1 => repeat (first | exact (Kd.R_reads' HO105.out).2.2 | (with_reducible refine Kd.C_alloc ?_ _) | (with_reducible refine Kd.C_drewN ?_ _) | (with_reducible refine Kd.C_drew ?_))); (case side2 => exact (Kd.R_reads' HO105.out).2.1); (case side3 => repeat (first | exact (Kd.R_reads' HO108.out).2.2 | (with_reducible refine Kd.C_alloc ?_ _) | (with_reducible refine Kd.C_drewN ?_ _) | (with_reducible refine Kd.C_drew ?_))); (case side4 => exact (Kd.R_reads' HO108.out).2.1); (case side5 => repeat (first | exact (Kd.R_reads' HO111.out).2.2 | (with_reducible refine Kd.C_alloc ?_ _) | (with_reducible refine Kd.C_drewN ?_ _) | (with_reducible refine Kd.C_drew ?_))); (case side6 => exact (Kd.R_reads' HO111.out).2.1); rintro e w20 ⟨rfl, hb⟩; refine ⟨_, rfl, ?_⟩; have n0_ := Aside0.mk (Kd.R_below (by (with_reducible repeat (first | apply Kd.R_alloc | apply Kd.R_drewN | apply Kd.R_drew)); exact HO105.out) hb); have n1_ := Aside0.mk (Kd.R_below (by (with_reducible repeat (first | apply Kd.R_alloc | apply Kd.R_drewN | apply Kd.R_drew)); exact HO108.out) hb); have n2_ := Aside0.mk (Kd.R_below (by (with_reducible repeat (first | apply Kd.R_alloc | apply Kd.R_drewN | apply Kd.R_drew)); exact HO111.out) hb); have n3_ := Aside0.mk (blk_below (g := gb101) (o := .cells #[.slice A0_0 l0_0.length c0_0, .slice A0_1 l0_1.length c0_1, .slice A0_2 l0_2.length c0_2] 29 (0, 0)) (by (with_reducible repeat (first | refine blk_drewN ?_ _ | refine blk_drew ?_ | refine blk_alloc ?_ _)); exact BK101.out) hb); have n4_ := Aside0.mk (below_step (by repeat (first | (with_reducible first | exact HB.out | apply below_alloc | apply pw_below_drewN | apply below_drew1 | refine below_set ?_ GE101.out) | exact HB.out)) hb); clear HO105; clear HO108; clear HO111; clear BK101; clear HB; have HO105 := n0_; have HO108 := n1_; have HO111 := n2_; have BK101 := n3_; have HB := n4_; clear n0_ n1_ n2_ n3_ n4_; (try clear hb); (try clear hb2); (try clear hk); (try clear hi); have hcz21_0 : w20.cell? ⟨gb101, 0, none⟩ = some (.slice A0_0 l0_0.length c0_0) := (blk_cell BK101.out 0).trans rfl; have hcz21_1 : w20.cell? ⟨gb101, 1, none⟩ = some (.slice A0_1 l0_1.length c0_1) := (blk_cell BK101.out 1).trans rfl; have hcz21_2 : w20.cell? ⟨gb101, 2, none⟩ = some (.slice A0_2 l0_2.length c0_2) := (blk_cell BK101.out 2).trans rfl; have hfz21_0 := blk_frozen BK101.out 0; have hfz21_1 := blk_frozen BK101.out 1; have hfz21_2 := blk_frozen BK101.out 2) | ((with_reducible refine gate_callee (f := 21) rfl ?_); refine goesL_ (some 24) rfl rfl Try.func21 (by kernel_rfl) rfl #[.agg #[.slice A0_0 l0_0.length c0_0, .slice A0_1 l0_1.length c0_1, .slice A0_2 l0_2.length c0_2]] rfl (by (try simp only [List.map_toArray, List.map_cons, List.map_nil]); first | done | rfl | (simp only [List.length_drop, List.length_take]; rfl)) ?_; (with_reducible refine (laws_toJobs.calls k _ _ l0_0 _ _ l0_1 _ _ l0_2 t115 t118 t121 _ ?side1 ?side2 ?side3 ?side4 ?side5 ?side6 A9.out).mono ?_); (case side1 => repeat (first | exact (Kd.C_below HR0_0.out HB.out) | (with_reducible refine Kd.C_alloc ?_ _) | (with_reducible refine Kd.C_drewN ?_ _) | (with_reducible refine Kd.C_drew ?_))); (case side2 => exact HC0_0.out); (case side3 => repeat (first | exact (Kd.C_below HR0_1.out HB.out) | (with_reducible refine Kd.C_alloc ?_ _) | (with_reducible refine Kd.C_drewN ?_ _) | (with_reducible refine Kd.C_drew ?_))); (case side4 => exact HC0_1.out); (case side5 => repeat (first | exact (Kd.C_below HR0_2.out HB.out) | (with_reducible refine Kd.C_alloc ?_ _) | (with_reducible refine Kd.C_drewN ?_ _) | (with_reducible refine Kd.C_drew ?_))); (case side6 => exact HC0_2.out); rintro e w22 ⟨v116, v119, v122, rfl, ho0, ho1, ho2, hb⟩; refine ⟨_, rfl, ?_⟩; have n0_ := Aside0.mk (Kd.R_mono (Kd.R_told (Kd.R_told (Kd.R_told (Kd.R_old (by (with_reducible repeat (first | apply Kd.R_alloc | apply Kd.R_drewN | apply Kd.R_drew)); exact HO105.out) hb) (Kd.R_base ho0)) (Kd.R_base ho1)) (Kd.R_base ho2)) (fun _ h_ => h_.1)); have n1_ := Aside0.mk (Kd.R_mono (Kd.R_told (Kd.R_told (Kd.R_told (Kd.R_old (by (with_reducible repeat (first | apply Kd.R_alloc | apply Kd.R_drewN | apply Kd.R_drew)); exact HO108.out) hb) (Kd.R_base ho0)) (Kd.R_base ho1)) (Kd.R_base ho2)) (fun _ h_ => h_.1)); have n2_ := Aside0.mk (Kd.R_mono (Kd.R_told (Kd.R_told (Kd.R_told (Kd.R_old (by (with_reducible repeat (first | apply Kd.R_alloc | apply Kd.R_drewN | apply Kd.R_drew)); exact HO111.out) hb) (Kd.R_base ho0)) (Kd.R_base ho1)) (Kd.R_base ho2)) (fun _ h_ => h_.1)); have n3_ := Aside0.mk (Kd.R_lower (Kd.R_new' (Kd.R_new' (Kd.R_new' ho0 (Kd.R_lt (by (with_reducible repeat (first | apply Kd.R_alloc | apply Kd.R_drewN | apply Kd.R_drew)); exact HO105.out))) (Kd.R_lt (by (with_reducible repeat (first | apply Kd.R_alloc | apply Kd.R_drewN | apply Kd.R_drew)); exact HO108.out))) (Kd.R_lt (by (with_reducible repeat (first | apply Kd.R_alloc | apply Kd.R_drewN | apply Kd.R_drew)); exact HO111.out))) (below_size (by repeat (first | (with_reducible first | exact HB.out | apply below_alloc | apply pw_below_drewN | apply below_drew1 | refine below_set ?_ GE101.out) | exact HB.out)))); have n4_ := Aside0.mk (Kd.R_lower (Kd.R_new' (Kd.R_new' (Kd.R_new' ho1 (Kd.R_lt (by (with_reducible repeat (first | apply Kd.R_alloc | apply Kd.R_drewN | apply Kd.R_drew)); exact HO105.out))) (Kd.R_lt (by (with_reducible repeat (first | apply Kd.R_alloc | apply Kd.R_drewN | apply Kd.R_drew)); exact HO108.out))) (Kd.R_lt (by (with_reducible repeat (first | apply Kd.R_alloc | apply Kd.R_drewN | apply Kd.R_drew)); exact HO111.out))) (below_size (by repeat (first | (with_reducible first | exact HB.out | apply below_alloc | apply pw_below_drewN | apply below_drew1 | refine below_set ?_ GE101.out) | exact HB.out)))); have n5_ := Aside0.mk (Kd.R_lower (Kd.R_new' (Kd.R_new' (Kd.R_new' ho2 (Kd.R_lt (by (with_reducible repeat (first | apply Kd.R_alloc | apply Kd.R_drewN | apply Kd.R_drew)); exact HO105.out))) (Kd.R_lt (by (with_reducible repeat (first | apply Kd.R_alloc | apply Kd.R_drewN | apply Kd.R_drew)); exact HO108.out))) (Kd.R_lt (by (with_reducible repeat (first | apply Kd.R_alloc | apply Kd.R_drewN | apply Kd.R_drew)); exact HO111.out))) (below_size (by repeat (first | (with_reducible first | exact HB.out | apply below_alloc | apply pw_below_drewN | apply below_drew1 | refine below_set ?_ GE101.out) | exact HB.out)))); have n6_ := Aside0.mk (blk_below (g := gb101) (o := .cells #[.slice A0_0 l0_0.length c0_0, .slice A0_1 l0_1.length c0_1, .slice A0_2 l0_2.length c0_2] 29 (0, 0)) (by (with_reducible repeat (first | refine blk_drewN ?_ _ | refine blk_drew ?_ | refine blk_alloc ?_ _)); exact BK101.out) hb); have n7_ := Aside0.mk (below_step (by repeat (first | (with_reducible first | exact HB.out | apply below_alloc | apply pw_below_drewN | apply below_drew1 | refine below_set ?_ GE101.out) | exact HB.out)) hb); clear HO105; clear HO108; clear HO111; clear BK101; clear HB; have HO105 := n0_; have HO108 := n1_; have HO111 := n2_; have HO117 := n3_; have HO120 := n4_; have HO123 := n5_; have BK101 := n6_; have HB := n7_; clear n0_ n1_ n2_ n3_ n4_ n5_ n6_ n7_; (try clear hb); (try clear hb2); (try clear hk); (try clear hi); (try clear ho0); (try clear ho1); (try clear ho2)) | ((with_reducible refine gate_dst (N := 7) rfl ?_); refine box_event ?hg (N := 7) ?hd (cs := #[.slice none 0 0, .slice none 0 0, .slice none 0 0]) (t := 32) ?hr ?_; (case hd => rfl); (case hg => rfl); (case hr => first | (go_simp; done) | (go_simp; rfl)); intro gb124 hg w23 hbox hb; have n0_ := Aside0.mk (Kd.R_below (by (with_reducible repeat (first | apply Kd.R_alloc | apply Kd.R_drewN | apply Kd.R_drew)); exact HO105.out) hb); have n1_ := Aside0.mk (Kd.R_below (by (with_reducible repeat (first | apply Kd.R_alloc | apply Kd.R_drewN | apply Kd.R_drew)); exact HO108.out) hb); have n2_ := Aside0.mk (Kd.R_below (by (with_reducible repeat (first | apply Kd.R_alloc | apply Kd.R_drewN | apply Kd.R_drew)); exact HO111.out) hb); have n3_ := Aside0.mk (Kd.R_below (by (with_reducible repeat (first | apply Kd.R_alloc | apply Kd.R_drewN | apply Kd.R_drew)); exact HO117.out) hb); have n4_ := Aside0.mk (Kd.R_below (by (with_reducible repeat (first | apply Kd.R_alloc | apply Kd.R_drewN | apply Kd.R_drew)); exact HO120.out) hb); have n5_ := Aside0.mk (Kd.R_below (by (with_reducible repeat (first | apply Kd.R_alloc | apply Kd.R_drewN | apply Kd.R_drew)); exact HO123.out) hb); have n6_ := Aside0.mk (blk_below (g := gb101) (o := .cells #[.slice A0_0 l0_0.length c0_0, .slice A0_1 l0_1.length c0_1, .slice A0_2 l0_2.length c0_2] 29 (0, 0)) (by (with_reducible repeat (first | refine blk_drewN ?_ _ | refine blk_drew ?_ | refine blk_alloc ?_ _)); exact BK101.out) hb); have n7_ := Aside0.mk (below_step (by repeat (first | (with_reducible first | exact HB.out | apply below_alloc | apply pw_below_drewN | apply below_drew1 | refine below_set ?_ GE101.out) | exact HB.out)) hb); have n8_ := Aside0.mk (hbox); have n9_ := Aside0.mk ((by rw [hg]; exact (below_size (by repeat (first | (with_reducible first | exact HB.out | apply below_alloc | apply pw_below_drewN | apply below_drew1 | refine below_set ?_ GE101.out) | exact HB.out))) : w.heap.size ≤ gb124)); have n10_ := Aside0.mk ((by rw [hg]; exact (below_size (by repeat (first | (with_reducible first | exact HB.out | apply below_alloc | apply pw_below_drewN | apply below_drew1 | refine below_set ?_ GE101.out) | exact HB.out))) : w.heap.size ≤ gb124)); have n11_ := Aside0.mk ((by rw [hg]; exact Nat.ne_of_lt (blk_lt (g := gb101) (o := .cells #[.slice A0_0 l0_0.length c0_0, .slice A0_1 l0_1.length c0_1, .slice A0_2 l0_2.length c0_2] 29 (0, 0)) (by (with_reducible repeat (first | refine blk_drewN ?_ _ | refine blk_drew ?_ | refine blk_alloc ?_ _)); exact BK101.out)) : gb101 ≠ gb124)); have n12_ := Aside0.mk ((by rw [hg]; exact Nat.ne_of_gt (blk_lt (g := gb101) (o := .cells #[.slice A0_0 l0_0.length c0_0, .slice A0_1 l0_1.length c0_1, .slice A0_2 l0_2.length c0_2] 29 (0, 0)) (by (with_reducible repeat (first | refine blk_drewN ?_ _ | refine blk_drew ?_ | refine blk_alloc ?_ _)); exact BK101.out)) : gb124 ≠ gb101)); clear HO105; clear HO108; clear HO111; clear HO117; clear HO120; clear HO123; clear BK101; clear HB; have HO105 := n0_; have HO108 := n1_; have HO111 := n2_; have HO117 := n3_; have HO120 := n4_; have HO123 := n5_; have BK101 := n6_; have HB := n7_; have BK124 := n8_; have GW124 := n9_; have GE124 := n10_; have NB101_124 := n11_; have NB124_101 := n12_; clear n0_ n1_ n2_ n3_ n4_ n5_ n6_ n7_ n8_ n9_ n10_ n11_ n12_; clear hb hbox hg; obtain ⟨Ao24, co24, eo24⟩ := Kd.R_slice HO117.out; subst eo24; have hnb25 := NB124_101.out; have hnc25 := NB101_124.out; have hcz26_0 : w23.cell? ⟨gb124, 0, none⟩ = some (.slice none 0 0) := (blk_cell BK124.out 0).trans rfl; have hcz26_1 : w23.cell? ⟨gb124, 1, none⟩ = some (.slice none 0 0) := (blk_cell BK124.out 1).trans rfl; have hcz26_2 : w23.cell? ⟨gb124, 2, none⟩ = some (.slice none 0 0) := (blk_cell BK124.out 2).trans rfl; have hfz26_0 := blk_frozen BK124.out 0; have hfz26_1 := blk_frozen BK124.out 1; have hfz26_2 := blk_frozen BK124.out 2; obtain ⟨Ao27, co27, eo27⟩ := Kd.R_slice HO120.out; subst eo27; obtain ⟨Ao28, co28, eo28⟩ := Kd.R_slice HO123.out; subst eo28) | ((with_reducible refine gate_callee (f := 25) rfl ?_); refine goesL_ (some 27) rfl rfl Try.func25 (by kernel_rfl) rfl #[.agg #[.slice Ao24 t115.length co24, .slice Ao27 t118.length co27, .slice Ao28 t121.length co28]] rfl (by (try simp only [List.map_toArray, List.map_cons, List.map_nil]); first | done | rfl | (simp only [List.length_drop, List.length_take]; rfl)) ?_; (with_reducible refine (impl_FirstLate.calls k _ _ t115 _ _ t118 _ _ t121 t125 t126 t127 _ ?side1 ?side2 ?side3 ?side4 ?side5 ?side6 A10.out).mono ?_); (case side1 => refine (Kd.R_reads' (e := 2) (base := w.heap.size) (ok := fun k_ => ((((some k_ ≠ (.slice Ao27 t118.length co27 : Value).ownBlock ∧ some k_ ≠ (.slice Ao28 t121.length co28 : Value).ownBlock) ∧ some k_ ≠ (.slice Ao17 t103.length co17 : Value).ownBlock) ∧ some k_ ≠ (.slice Ao18 t106.length co18 : Value).ownBlock) ∧ some k_ ≠ (.slice Ao19 t109.length co19 : Value).ownBlock)) (n := t115.length) (c := co24) ?_).2.2; exact (by (with_reducible repeat (first | apply Kd.R_alloc | apply Kd.R_drewN | apply Kd.R_drew)); exact (Kd.R_mono (Kd.R_far (p := ⟨gb124, 2, none⟩) (Kd.R_far (p := ⟨gb124, 1, none⟩) (Kd.R_far (p := ⟨gb124, 0, none⟩) (Kd.R_types HO117.out BK124.out (by decide)) (fun _ hk => hk.2) (.slice Ao24 t115.length co24)) (fun _ hk => hk.2) (.slice Ao27 t118.length co27)) (fun _ hk => hk.2) (.slice Ao28 t121.length co28)) (fun _ h_ => h_.1)))); (case side2 => exact (Kd.R_reads' HO117.out).2.1); (case side3 => refine (Kd.R_reads' (e := 2) (base := w.heap.size) (ok := fun k_ => ((((some k_ ≠ (.slice Ao24 t115.length co24 : Value).ownBlock ∧ some k_ ≠ (.slice Ao28 t121.length co28 : Value).ownBlock) ∧ some k_ ≠ (.slice Ao17 t103.length co17 : Value).ownBlock) ∧ some k_ ≠ (.slice Ao18 t106.length co18 : Value).ownBlock) ∧ some k_ ≠ (.slice Ao19 t109.length co19 : Value).ownBlock)) (n := t118.length) (c := co27) ?_).2.2; exact (by (with_reducible repeat (first | apply Kd.R_alloc | apply Kd.R_drewN | apply Kd.R_drew)); exact (Kd.R_mono (Kd.R_far (p := ⟨gb124, 2, none⟩) (Kd.R_far (p := ⟨gb124, 1, none⟩) (Kd.R_far (p := ⟨gb124, 0, none⟩) (Kd.R_types HO120.out BK124.out (by decide)) (fun _ hk => hk.2) (.slice Ao24 t115.length co24)) (fun _ hk => hk.2) (.slice Ao27 t118.length co27)) (fun _ hk => hk.2) (.slice Ao28 t121.length co28)) (fun _ h_ => h_.1)))); (case side4 => exact (Kd.R_reads' HO120.out).2.1); (case side5 => refine (Kd.R_reads' (e := 2) (base := w.heap.size) (ok := fun k_ => ((((some k_ ≠ (.slice Ao24 t115.length co24 : Value).ownBlock ∧ some k_ ≠ (.slice Ao27 t118.length co27 : Value).ownBlock) ∧ some k_ ≠ (.slice Ao17 t103.length co17 : Value).ownBlock) ∧ some k_ ≠ (.slice Ao18 t106.length co18 : Value).ownBlock) ∧ some k_ ≠ (.slice Ao19 t109.length co19 : Value).ownBlock)) (n := t121.length) (c := co28) ?_).2.2; exact (by (with_reducible repeat (first | apply Kd.R_alloc | apply Kd.R_drewN | apply Kd.R_drew)); exact (Kd.R_mono (Kd.R_far (p := ⟨gb124, 2, none⟩) (Kd.R_far (p := ⟨gb124, 1, none⟩) (Kd.R_far (p := ⟨gb124, 0, none⟩) (Kd.R_types HO123.out BK124.out (by decide)) (fun _ hk => hk.2) (.slice Ao24 t115.length co24)) (fun _ hk => hk.2) (.slice Ao27 t118.length co27)) (fun _ hk => hk.2) (.slice Ao28 t121.length co28)) (fun _ h_ => h_.1)))); (case side6 => exact (Kd.R_reads' HO123.out).2.1); rintro e w29 ⟨rfl, hb⟩; refine ⟨_, rfl, ?_⟩; have n0_ := Aside0.mk (Kd.R_below (by (with_reducible repeat (first | apply Kd.R_alloc | apply Kd.R_drewN | apply Kd.R_drew)); exact (Kd.R_mono (Kd.R_far (p := ⟨gb124, 2, none⟩) (Kd.R_far (p := ⟨gb124, 1, none⟩) (Kd.R_far (p := ⟨gb124, 0, none⟩) (Kd.R_types HO105.out BK124.out (by decide)) (fun _ hk => hk.2) (.slice Ao24 t115.length co24)) (fun _ hk => hk.2) (.slice Ao27 t118.length co27)) (fun _ hk => hk.2) (.slice Ao28 t121.length co28)) (fun _ h_ => h_.1))) hb); have n1_ := Aside0.mk (Kd.R_below (by (with_reducible repeat (first | apply Kd.R_alloc | apply Kd.R_drewN | apply Kd.R_drew)); exact (Kd.R_mono (Kd.R_far (p := ⟨gb124, 2, none⟩) (Kd.R_far (p := ⟨gb124, 1, none⟩) (Kd.R_far (p := ⟨gb124, 0, none⟩) (Kd.R_types HO108.out BK124.out (by decide)) (fun _ hk => hk.2) (.slice Ao24 t115.length co24)) (fun _ hk => hk.2) (.slice Ao27 t118.length co27)) (fun _ hk => hk.2) (.slice Ao28 t121.length co28)) (fun _ h_ => h_.1))) hb); have n2_ := Aside0.mk (Kd.R_below (by (with_reducible repeat (first | apply Kd.R_alloc | apply Kd.R_drewN | apply Kd.R_drew)); exact (Kd.R_mono (Kd.R_far (p := ⟨gb124, 2, none⟩) (Kd.R_far (p := ⟨gb124, 1, none⟩) (Kd.R_far (p := ⟨gb124, 0, none⟩) (Kd.R_types HO111.out BK124.out (by decide)) (fun _ hk => hk.2) (.slice Ao24 t115.length co24)) (fun _ hk => hk.2) (.slice Ao27 t118.length co27)) (fun _ hk => hk.2) (.slice Ao28 t121.length co28)) (fun _ h_ => h_.1))) hb); have n3_ := Aside0.mk (Kd.R_below (by (with_reducible repeat (first | apply Kd.R_alloc | apply Kd.R_drewN | apply Kd.R_drew)); exact (Kd.R_mono (Kd.R_far (p := ⟨gb124, 2, none⟩) (Kd.R_far (p := ⟨gb124, 1, none⟩) (Kd.R_far (p := ⟨gb124, 0, none⟩) (Kd.R_types HO117.out BK124.out (by decide)) (fun _ hk => hk.2) (.slice Ao24 t115.length co24)) (fun _ hk => hk.2) (.slice Ao27 t118.length co27)) (fun _ hk => hk.2) (.slice Ao28 t121.length co28)) (fun _ h_ => h_.1))) hb); have n4_ := Aside0.mk (Kd.R_below (by (with_reducible repeat (first | apply Kd.R_alloc | apply Kd.R_drewN | apply Kd.R_drew)); exact (Kd.R_mono (Kd.R_far (p := ⟨gb124, 2, none⟩) (Kd.R_far (p := ⟨gb124, 1, none⟩) (Kd.R_far (p := ⟨gb124, 0, none⟩) (Kd.R_types HO120.out BK124.out (by decide)) (fun _ hk => hk.2) (.slice Ao24 t115.length co24)) (fun _ hk => hk.2) (.slice Ao27 t118.length co27)) (fun _ hk => hk.2) (.slice Ao28 t121.length co28)) (fun _ h_ => h_.1))) hb); have n5_ := Aside0.mk (Kd.R_below (by (with_reducible repeat (first | apply Kd.R_alloc | apply Kd.R_drewN | apply Kd.R_drew)); exact (Kd.R_mono (Kd.R_far (p := ⟨gb124, 2, none⟩) (Kd.R_far (p := ⟨gb124, 1, none⟩) (Kd.R_far (p := ⟨gb124, 0, none⟩) (Kd.R_types HO123.out BK124.out (by decide)) (fun _ hk => hk.2) (.slice Ao24 t115.length co24)) (fun _ hk => hk.2) (.slice Ao27 t118.length co27)) (fun _ hk => hk.2) (.slice Ao28 t121.length co28)) (fun _ h_ => h_.1))) hb); have n6_ := Aside0.mk (blk_below (g := gb101) (o := .cells #[.slice A0_0 l0_0.length c0_0, .slice A0_1 l0_1.length c0_1, .slice A0_2 l0_2.length c0_2] 29 (0, 0)) (by (with_reducible repeat (first | refine blk_drewN ?_ _ | refine blk_drew ?_ | refine blk_alloc ?_ _)); refine blk_far ?_ NB101_124.out _; (with_reducible repeat (first | refine blk_drewN ?_ _ | refine blk_drew ?_ | refine blk_alloc ?_ _)); refine blk_far ?_ NB101_124.out _; (with_reducible repeat (first | refine blk_drewN ?_ _ | refine blk_drew ?_ | refine blk_alloc ?_ _)); refine blk_far ?_ NB101_124.out _; (with_reducible repeat (first | refine blk_drewN ?_ _ | refine blk_drew ?_ | refine blk_alloc ?_ _)); exact BK101.out) hb); have n7_ := Aside0.mk (blk_below (g := gb124) (o := .cells #[.slice Ao24 t115.length co24, .slice Ao27 t118.length co27, .slice Ao28 t121.length co28] 32 (0, 0)) (by (with_reducible repeat (first | refine blk_drewN ?_ _ | refine blk_drew ?_ | refine blk_alloc ?_ _)); refine blk_put (cs := #[.slice Ao24 t115.length co24, .slice Ao27 t118.length co27, .slice none 0 0]) ?_ 2 _ rfl; (with_reducible repeat (first | refine blk_drewN ?_ _ | refine blk_drew ?_ | refine blk_alloc ?_ _)); refine blk_put (cs := #[.slice Ao24 t115.length co24, .slice none 0 0, .slice none 0 0]) ?_ 1 _ rfl; (with_reducible repeat (first | refine blk_drewN ?_ _ | refine blk_drew ?_ | refine blk_alloc ?_ _)); refine blk_put (cs := #[.slice none 0 0, .slice none 0 0, .slice none 0 0]) ?_ 0 _ rfl; (with_reducible repeat (first | refine blk_drewN ?_ _ | refine blk_drew ?_ | refine blk_alloc ?_ _)); exact BK124.out) hb); have n8_ := Aside0.mk (below_step (by repeat (first | (with_reducible first | exact HB.out | apply below_alloc | apply pw_below_drewN | apply below_drew1 | refine below_set ?_ GE101.out | refine below_set ?_ GE124.out) | exact HB.out)) hb); clear HO105; clear HO108; clear HO111; clear HO117; clear HO120; clear HO123; clear BK101; clear BK124; clear HB; have HO105 := n0_; have HO108 := n1_; have HO111 := n2_; have HO117 := n3_; have HO120 := n4_; have HO123 := n5_; have BK101 := n6_; have BK124 := n7_; have HB := n8_; clear n0_ n1_ n2_ n3_ n4_ n5_ n6_ n7_ n8_; (try clear hb); (try clear hb2); (try clear hk); (try clear hi)))
    (try simp only [Act.put, List.setIfInBounds_toArray, List.set_cons_zero, List.set_cons_succ])
    go_cut [43] (fun v43 wc => ∃ (kq : Nat) (x43_10 : Bool), v43 = .bool x43_10 ∧ Aside0 (laws_FnExactFirstLate.j0 kq x43_10 l0_0 l0_1 l0_2 t115 t118 t121 = some r) ∧ Aside0 (kq ≤ k) ∧ Aside0 (Kd.R (Kd.int .i64) 2 wc w.heap.size (fun k_ => some k_ ≠ ((.slice Ao27 t118.length co27) : Value).ownBlock ∧ some k_ ≠ ((.slice Ao28 t121.length co28) : Value).ownBlock) (.slice Ao24 t115.length co24) t115) ∧ Aside0 (Kd.R (Kd.int .i64) 2 wc w.heap.size (fun k_ => some k_ ≠ ((.slice Ao24 t115.length co24) : Value).ownBlock ∧ some k_ ≠ ((.slice Ao28 t121.length co28) : Value).ownBlock) (.slice Ao27 t118.length co27) t118) ∧ Aside0 (Kd.R (Kd.int .i64) 2 wc w.heap.size (fun k_ => some k_ ≠ ((.slice Ao24 t115.length co24) : Value).ownBlock ∧ some k_ ≠ ((.slice Ao27 t118.length co27) : Value).ownBlock) (.slice Ao28 t121.length co28) t121) ∧ Aside0 (wc.heap[gb101]? = some (.cells #[(.slice A0_0 l0_0.length c0_0), (.slice A0_1 l0_1.length c0_1), (.slice A0_2 l0_2.length c0_2)] 29 (0, 0))) ∧ Aside0 (wc.heap[gb124]? = some (.cells #[(.slice Ao24 t115.length co24), (.slice Ao27 t118.length co27), (.slice Ao28 t121.length co28)] 32 (0, 0))) ∧ Aside0 (Below w.heap.size w wc))
    case first =>
      have H := HC11.out
      clear HC11
      by_cases c30 : t125 = t112
      · rw [if_pos c30] at H
        have c30b0 : (t125 == t112) = true := beq_iff_eq.mpr c30
        have c30b1 : (t125 != t112) = false := bne_eq_false_iff_eq.mpr c30
        clear c30
        (first | rw [c30b0] | (simp only [i64_w, i32_w]; rw [c30b0]) | skip)
        by_cases c31 : t126 = t113
        · rw [if_pos c31] at H
          have c31b0 : (t126 == t113) = true := beq_iff_eq.mpr c31
          have c31b1 : (t126 != t113) = false := bne_eq_false_iff_eq.mpr c31
          clear c31
          have H' := Aside0.mk H
          clear H
          go_wp2
          go_meet
          case rel => exact ⟨_, ((t127 != t114)), (by first | rfl | (simp; done) | (simp [*]; done)), H', ⟨by first | omega | exact Nat.le_refl _⟩, ⟨by (with_reducible repeat (first | apply Kd.R_alloc | apply Kd.R_drewN | apply Kd.R_drew)); exact Kd.R_mono HO117.out (fun _ hk => ⟨hk.1.1.1.1, hk.1.1.1.2⟩)⟩, ⟨by (with_reducible repeat (first | apply Kd.R_alloc | apply Kd.R_drewN | apply Kd.R_drew)); exact Kd.R_mono HO120.out (fun _ hk => ⟨hk.1.1.1.1, hk.1.1.1.2⟩)⟩, ⟨by (with_reducible repeat (first | apply Kd.R_alloc | apply Kd.R_drewN | apply Kd.R_drew)); exact Kd.R_mono HO123.out (fun _ hk => ⟨hk.1.1.1.1, hk.1.1.1.2⟩)⟩, ⟨by (with_reducible repeat (first | refine blk_drewN ?_ _ | refine blk_drew ?_ | refine blk_alloc ?_ _)); exact BK101.out⟩, ⟨by (with_reducible repeat (first | refine blk_drewN ?_ _ | refine blk_drew ?_ | refine blk_alloc ?_ _)); exact BK124.out⟩, ⟨by repeat (first | (with_reducible first | exact HB.out | apply below_alloc | apply pw_below_drewN | apply below_drew1 | refine below_set ?_ GE101.out | refine below_set ?_ GE124.out) | exact HB.out)⟩⟩
        · rw [if_neg c31] at H
          have c31b0 : (t126 == t113) = false := beq_eq_false_iff_ne.mpr c31
          have c31b1 : (t126 != t113) = true := bne_iff_ne.mpr c31
          have H' := Aside0.mk H
          clear H
          go_wp2
          go_meet
          case rel => exact ⟨_, (true), (by first | rfl | (simp; done) | (simp [*]; done)), H', ⟨by first | omega | exact Nat.le_refl _⟩, ⟨by (with_reducible repeat (first | apply Kd.R_alloc | apply Kd.R_drewN | apply Kd.R_drew)); exact Kd.R_mono HO117.out (fun _ hk => ⟨hk.1.1.1.1, hk.1.1.1.2⟩)⟩, ⟨by (with_reducible repeat (first | apply Kd.R_alloc | apply Kd.R_drewN | apply Kd.R_drew)); exact Kd.R_mono HO120.out (fun _ hk => ⟨hk.1.1.1.1, hk.1.1.1.2⟩)⟩, ⟨by (with_reducible repeat (first | apply Kd.R_alloc | apply Kd.R_drewN | apply Kd.R_drew)); exact Kd.R_mono HO123.out (fun _ hk => ⟨hk.1.1.1.1, hk.1.1.1.2⟩)⟩, ⟨by (with_reducible repeat (first | refine blk_drewN ?_ _ | refine blk_drew ?_ | refine blk_alloc ?_ _)); exact BK101.out⟩, ⟨by (with_reducible repeat (first | refine blk_drewN ?_ _ | refine blk_drew ?_ | refine blk_alloc ?_ _)); exact BK124.out⟩, ⟨by repeat (first | (with_reducible first | exact HB.out | apply below_alloc | apply pw_below_drewN | apply below_drew1 | refine below_set ?_ GE101.out | refine below_set ?_ GE124.out) | exact HB.out)⟩⟩
      · rw [if_neg c30] at H
        have c30b0 : (t125 == t112) = false := beq_eq_false_iff_ne.mpr c30
        have c30b1 : (t125 != t112) = true := bne_iff_ne.mpr c30
        (first | rw [c30b0] | (simp only [i64_w, i32_w]; rw [c30b0]) | skip)
        have H' := Aside0.mk H
        clear H
        go_wp2
        go_meet
        case rel => exact ⟨_, (true), (by first | rfl | (simp; done) | (simp [*]; done)), H', ⟨by first | omega | exact Nat.le_refl _⟩, ⟨by (with_reducible repeat (first | apply Kd.R_alloc | apply Kd.R_drewN | apply Kd.R_drew)); exact Kd.R_mono HO117.out (fun _ hk => ⟨hk.1.1.1.1, hk.1.1.1.2⟩)⟩, ⟨by (with_reducible repeat (first | apply Kd.R_alloc | apply Kd.R_drewN | apply Kd.R_drew)); exact Kd.R_mono HO120.out (fun _ hk => ⟨hk.1.1.1.1, hk.1.1.1.2⟩)⟩, ⟨by (with_reducible repeat (first | apply Kd.R_alloc | apply Kd.R_drewN | apply Kd.R_drew)); exact Kd.R_mono HO123.out (fun _ hk => ⟨hk.1.1.1.1, hk.1.1.1.2⟩)⟩, ⟨by (with_reducible repeat (first | refine blk_drewN ?_ _ | refine blk_drew ?_ | refine blk_alloc ?_ _)); exact BK101.out⟩, ⟨by (with_reducible repeat (first | refine blk_drewN ?_ _ | refine blk_drew ?_ | refine blk_alloc ?_ _)); exact BK124.out⟩, ⟨by repeat (first | (with_reducible first | exact HB.out | apply below_alloc | apply pw_below_drewN | apply below_drew1 | refine below_set ?_ GE101.out | refine below_set ?_ GE124.out) | exact HB.out)⟩⟩
    case rest =>
      clear HC11
      try clear c1
      try clear c2
      try clear p2
      try clear c3
      try clear c3b0
      try clear c5
      try clear c19
      try clear c21
      try clear c24
      try clear c25
      try clear c30
      try clear c30b0
      try clear c30b1
      try clear c31
      try clear c31b0
      try clear c31b1
      try clear hcz13_0
      try clear hcz13_1
      try clear hcz13_2
      try clear hcz15_0
      try clear hcz15_1
      try clear hcz15_2
      try clear hcz21_0
      try clear hcz21_1
      try clear hcz21_2
      try clear hcz26_0
      try clear hcz26_1
      try clear hcz26_2
      try clear hcz5_0
      try clear hcz5_1
      try clear hcz5_2
      try clear hfz13_0
      try clear hfz13_1
      try clear hfz13_2
      try clear hfz15_0
      try clear hfz15_1
      try clear hfz15_2
      try clear hfz21_0
      try clear hfz21_1
      try clear hfz21_2
      try clear hfz26_0
      try clear hfz26_1
      try clear hfz26_2
      try clear hfz5_0
      try clear hfz5_1
      try clear hfz5_2
      obtain ⟨kq, x43_10, rfl, HA, HJ10, HO_125000, HO_125001, HO_125002, BK101, BK124, HB⟩ := hcut
      cases kq with
      | zero => exact absurd HA.out (by simp [laws_FnExactFirstLate.j0])
      | succ kj10 =>
        have H := HA.out
        clear HA
        simp only [laws_FnExactFirstLate.j0] at H
        by_cases c32 : x43_10 = true
        · subst c32
          have H1 : (some false) = some r := by rw [if_pos rfl] at H; exact H
          clear H
          have H := H1
          clear H1
          obtain rfl := Option.some.inj H
          go_wp2
          go_ret
          exact ⟨by first | rfl | (simp [errW_none, errW_some] <;> rfl) | (simp [*, errW_none, errW_some] <;> rfl), by repeat (first | (with_reducible first | exact HB.out | apply below_alloc | apply pw_below_drewN | apply below_drew1 | refine below_set ?_ GE101.out | refine below_set ?_ GE124.out) | exact HB.out)⟩
        · replace c32 := Bool.eq_false_iff.mpr c32
          subst c32
          have H1 : ((laws_toJobs.f kj10 l0_0 l0_1 l0_2).bind fun bt128 => ((laws_eqJobs.f kj10 t115 t118 t121 bt128.1 bt128.2.1 bt128.2.2).bind fun t137 => (if t137 = true then (some true) else (some false)))) = some r := by rw [if_neg (show ¬ (false = true) by decide)] at H; exact H
          clear H
          have H := H1
          clear H1
          replace H := Option.bind_eq_some_iff.mp H
          obtain ⟨⟨t128, t131, t134⟩, A330, H⟩ := H
          replace H : ((laws_eqJobs.f kj10 t115 t118 t121 t128 t131 t134).bind fun t137 => (if t137 = true then (some true) else (some false))) = some r := H
          have A33 := Aside0.mk A330
          clear A330
          replace H := Option.bind_eq_some_iff.mp H
          obtain ⟨t137, A340, H⟩ := H
          replace H : (if t137 = true then (some true) else (some false)) = some r := H
          have A34 := Aside0.mk A340
          clear A340
          by_cases c35 : t137 = true
          · subst c35
            have H1 : (some true) = some r := by rw [if_pos rfl] at H; exact H
            clear H
            have H := H1
            clear H1
            obtain rfl := Option.some.inj H
            try go_wp2
            have n0_ := Aside0.mk (Kd.R_drew HO_125000.out)
            have n1_ := Aside0.mk (Kd.R_drew HO_125001.out)
            have n2_ := Aside0.mk (Kd.R_drew HO_125002.out)
            have n3_ := Aside0.mk (blk_drew BK101.out)
            have n4_ := Aside0.mk (blk_drew BK124.out)
            have n5_ := Aside0.mk (below_drew1 HB.out)
            clear HO_125000
            clear HO_125001
            clear HO_125002
            clear BK101
            clear BK124
            clear HB
            have HO_125000 := n0_
            have HO_125001 := n1_
            have HO_125002 := n2_
            have BK101 := n3_
            have BK124 := n4_
            have HB := n5_
            clear n0_ n1_ n2_ n3_ n4_ n5_
            refine start_ (n := 5) (S := fun w' => w'.cell? ⟨gb124, 0, none⟩ = some (.slice Ao24 t115.length co24) ∧ w'.cell? ⟨gb124, 1, none⟩ = some (.slice Ao27 t118.length co27) ∧ w'.cell? ⟨gb124, 2, none⟩ = some (.slice Ao28 t121.length co28) ∧ w'.cell? ⟨gb101, 0, none⟩ = some (.slice A0_0 l0_0.length c0_0) ∧ w'.cell? ⟨gb101, 1, none⟩ = some (.slice A0_1 l0_1.length c0_1) ∧ w'.cell? ⟨gb101, 2, none⟩ = some (.slice A0_2 l0_2.length c0_2)) (ds := []) #[false, false, false, false, false] (by kernel_rfl) rfl rfl ⟨(blk_cell BK124.out 0).trans rfl, (blk_cell BK124.out 1).trans rfl, (blk_cell BK124.out 2).trans rfl, (blk_cell BK101.out 0).trans rfl, (blk_cell BK101.out 1).trans rfl, (blk_cell BK101.out 2).trans rfl⟩ (fun hHeld => ?_)
            generalize wc.drew = w36 at HO_125000 HO_125001 HO_125002 BK101 BK124 HB hHeld ⊢
            refine take_ (i := 0) (N := some 44) (v := ?_) (a' := ?_) #[true, false, false, false, false] rfl rfl (by kernel_rfl) (fun _ _ _ h => h) (Or.inl ⟨by rfl, ?_⟩) hHeld ?_ ?_
            rotate_left
            · rintro w' ⟨s0, s1, s2, s3, s4, s5⟩
              go_simp
              with_reducible rfl
            rotate_left
            · simp only [Act.put, List.setIfInBounds_toArray, List.set_cons_zero, List.set_cons_succ, i64_w, i32_w]
              rfl
            refine take_ (i := 1) (N := some 45) (v := ?_) (a' := ?_) #[true, true, false, false, false] rfl rfl (by kernel_rfl) (fun _ _ _ h => h) (Or.inl ⟨by rfl, ?_⟩) hHeld ?_ ?_
            rotate_left
            · rintro w' ⟨s0, s1, s2, s3, s4, s5⟩
              go_simp
              with_reducible rfl
            rotate_left
            · simp only [Act.put, List.setIfInBounds_toArray, List.set_cons_zero, List.set_cons_succ, i64_w, i32_w]
              rfl
            refine one_ (i := 2) (N := some 46) #[true, true, true, false, false] rfl rfl (by kernel_rfl) (by decide) (fun K hK => ?_)
            refine goes_ Try.func21 (by kernel_rfl) rfl #[.agg #[.slice A0_0 l0_0.length c0_0, .slice A0_1 l0_1.length c0_1, .slice A0_2 l0_2.length c0_2]] (by rfl) rfl rfl (by (try simp only [List.map_toArray, List.map_cons, List.map_nil]); first | done | rfl | (simp only [List.length_drop, List.length_take]; rfl)) ?_
            with_reducible refine (laws_toJobs.calls kj10 _ _ l0_0 _ _ l0_1 _ _ l0_2 t128 t131 t134 _ ?side1 ?side2 ?side3 ?side4 ?side5 ?side6 A33.out).mono ?_
            (case side1 => repeat (first | exact (Kd.C_below HR0_0.out HB.out) | (with_reducible refine Kd.C_alloc ?_ _) | (with_reducible refine Kd.C_drewN ?_ _) | (with_reducible refine Kd.C_drew ?_)))
            (case side2 => exact HC0_0.out)
            (case side3 => repeat (first | exact (Kd.C_below HR0_1.out HB.out) | (with_reducible refine Kd.C_alloc ?_ _) | (with_reducible refine Kd.C_drewN ?_ _) | (with_reducible refine Kd.C_drew ?_)))
            (case side4 => exact HC0_1.out)
            (case side5 => repeat (first | exact (Kd.C_below HR0_2.out HB.out) | (with_reducible refine Kd.C_alloc ?_ _) | (with_reducible refine Kd.C_drewN ?_ _) | (with_reducible refine Kd.C_drew ?_)))
            (case side6 => exact HC0_2.out)
            rintro e w37 ⟨v129, v132, v135, rfl, ho0, ho1, ho2, hb⟩
            refine ⟨_, rfl, ?_⟩
            have n0_ := Aside0.mk (Kd.R_mono (Kd.R_told (Kd.R_told (Kd.R_told (Kd.R_old (by (with_reducible repeat (first | apply Kd.R_alloc | apply Kd.R_drewN | apply Kd.R_drew)); exact HO_125000.out) hb) (Kd.R_base ho0)) (Kd.R_base ho1)) (Kd.R_base ho2)) (fun _ h_ => h_.1))
            have n1_ := Aside0.mk (Kd.R_mono (Kd.R_told (Kd.R_told (Kd.R_told (Kd.R_old (by (with_reducible repeat (first | apply Kd.R_alloc | apply Kd.R_drewN | apply Kd.R_drew)); exact HO_125001.out) hb) (Kd.R_base ho0)) (Kd.R_base ho1)) (Kd.R_base ho2)) (fun _ h_ => h_.1))
            have n2_ := Aside0.mk (Kd.R_mono (Kd.R_told (Kd.R_told (Kd.R_told (Kd.R_old (by (with_reducible repeat (first | apply Kd.R_alloc | apply Kd.R_drewN | apply Kd.R_drew)); exact HO_125002.out) hb) (Kd.R_base ho0)) (Kd.R_base ho1)) (Kd.R_base ho2)) (fun _ h_ => h_.1))
            have n3_ := Aside0.mk (Kd.R_lower (Kd.R_new' (Kd.R_new' (Kd.R_new' ho0 (Kd.R_lt (by (with_reducible repeat (first | apply Kd.R_alloc | apply Kd.R_drewN | apply Kd.R_drew)); exact HO_125000.out))) (Kd.R_lt (by (with_reducible repeat (first | apply Kd.R_alloc | apply Kd.R_drewN | apply Kd.R_drew)); exact HO_125001.out))) (Kd.R_lt (by (with_reducible repeat (first | apply Kd.R_alloc | apply Kd.R_drewN | apply Kd.R_drew)); exact HO_125002.out))) (below_size (by repeat (first | (with_reducible first | exact HB.out | apply below_alloc | apply pw_below_drewN | apply below_drew1 | refine below_set ?_ GE101.out | refine below_set ?_ GE124.out) | exact HB.out))))
            have n4_ := Aside0.mk (Kd.R_lower (Kd.R_new' (Kd.R_new' (Kd.R_new' ho1 (Kd.R_lt (by (with_reducible repeat (first | apply Kd.R_alloc | apply Kd.R_drewN | apply Kd.R_drew)); exact HO_125000.out))) (Kd.R_lt (by (with_reducible repeat (first | apply Kd.R_alloc | apply Kd.R_drewN | apply Kd.R_drew)); exact HO_125001.out))) (Kd.R_lt (by (with_reducible repeat (first | apply Kd.R_alloc | apply Kd.R_drewN | apply Kd.R_drew)); exact HO_125002.out))) (below_size (by repeat (first | (with_reducible first | exact HB.out | apply below_alloc | apply pw_below_drewN | apply below_drew1 | refine below_set ?_ GE101.out | refine below_set ?_ GE124.out) | exact HB.out))))
            have n5_ := Aside0.mk (Kd.R_lower (Kd.R_new' (Kd.R_new' (Kd.R_new' ho2 (Kd.R_lt (by (with_reducible repeat (first | apply Kd.R_alloc | apply Kd.R_drewN | apply Kd.R_drew)); exact HO_125000.out))) (Kd.R_lt (by (with_reducible repeat (first | apply Kd.R_alloc | apply Kd.R_drewN | apply Kd.R_drew)); exact HO_125001.out))) (Kd.R_lt (by (with_reducible repeat (first | apply Kd.R_alloc | apply Kd.R_drewN | apply Kd.R_drew)); exact HO_125002.out))) (below_size (by repeat (first | (with_reducible first | exact HB.out | apply below_alloc | apply pw_below_drewN | apply below_drew1 | refine below_set ?_ GE101.out | refine below_set ?_ GE124.out) | exact HB.out))))
            have n6_ := Aside0.mk (blk_below (g := gb101) (o := .cells #[.slice A0_0 l0_0.length c0_0, .slice A0_1 l0_1.length c0_1, .slice A0_2 l0_2.length c0_2] 29 (0, 0)) (by (with_reducible repeat (first | refine blk_drewN ?_ _ | refine blk_drew ?_ | refine blk_alloc ?_ _)); exact BK101.out) hb)
            have n7_ := Aside0.mk (blk_below (g := gb124) (o := .cells #[.slice Ao24 t115.length co24, .slice Ao27 t118.length co27, .slice Ao28 t121.length co28] 32 (0, 0)) (by (with_reducible repeat (first | refine blk_drewN ?_ _ | refine blk_drew ?_ | refine blk_alloc ?_ _)); exact BK124.out) hb)
            have n8_ := Aside0.mk (below_step (by repeat (first | (with_reducible first | exact HB.out | apply below_alloc | apply pw_below_drewN | apply below_drew1 | refine below_set ?_ GE101.out | refine below_set ?_ GE124.out) | exact HB.out)) hb)
            clear HO_125000
            clear HO_125001
            clear HO_125002
            clear BK101
            clear BK124
            clear HB
            have HO_125000 := n0_
            have HO_125001 := n1_
            have HO_125002 := n2_
            have HO130 := n3_
            have HO133 := n4_
            have HO136 := n5_
            have BK101 := n6_
            have BK124 := n7_
            have HB := n8_
            clear n0_ n1_ n2_ n3_ n4_ n5_ n6_ n7_ n8_
            (try clear hb)
            (try clear hb2)
            (try clear hk)
            (try clear hi)
            (try clear ho0)
            (try clear ho1)
            (try clear ho2)
            obtain ⟨Ao38, co38, eo38⟩ := Kd.R_slice HO130.out
            (first | subst eo38 | (injection eo38 with f1_ f2_ f3_; have f4_ := f1_.symm; have f5_ := f3_.symm; clear f1_ f2_ f3_; subst f4_; subst f5_))
            obtain ⟨Ao39, co39, eo39⟩ := Kd.R_slice HO133.out
            (first | subst eo39 | (injection eo39 with f1_ f2_ f3_; have f4_ := f1_.symm; have f5_ := f3_.symm; clear f1_ f2_ f3_; subst f4_; subst f5_))
            obtain ⟨Ao40, co40, eo40⟩ := Kd.R_slice HO136.out
            (first | subst eo40 | (injection eo40 with f1_ f2_ f3_; have f4_ := f1_.symm; have f5_ := f3_.symm; clear f1_ f2_ f3_; subst f4_; subst f5_))
            refine hK.out _ _ ⟨(blk_cell BK124.out 0).trans rfl, (blk_cell BK124.out 1).trans rfl, (blk_cell BK124.out 2).trans rfl, (blk_cell BK101.out 0).trans rfl, (blk_cell BK101.out 1).trans rfl, (blk_cell BK101.out 2).trans rfl⟩ (fun hHeld => ?_)
            clear hK K
            refine norm_ (a' := ?_) ?_ ?_
            rotate_left
            · show Act.put _ (some 46) _ = _
              simp only [Act.put, List.setIfInBounds_toArray, List.set_cons_zero, List.set_cons_succ, i64_w, i32_w]
              rfl
            refine one_ (i := 3) (N := some 47) #[true, true, true, true, false] rfl rfl (by kernel_rfl) (by decide) (fun K hK => ?_)
            refine goes_ Try.func23 (by kernel_rfl) rfl #[.agg #[.slice Ao24 t115.length co24, .slice Ao27 t118.length co27, .slice Ao28 t121.length co28], .agg #[.slice Ao38 t128.length co38, .slice Ao39 t131.length co39, .slice Ao40 t134.length co40]] (by rfl) rfl rfl (by (try simp only [List.map_toArray, List.map_cons, List.map_nil]); first | done | rfl | (simp only [List.length_drop, List.length_take]; rfl)) ?_
            with_reducible refine (laws_eqJobs.calls kj10 _ _ t115 _ _ t118 _ _ t121 _ _ t128 _ _ t131 _ _ t134 true _ ?side1 ?side2 ?side3 ?side4 ?side5 ?side6 ?side7 ?side8 ?side9 ?side10 ?side11 ?side12 A34.out).mono ?_
            (case side1 => repeat (first | exact (Kd.R_reads' HO_125000.out).2.2 | (with_reducible refine Kd.C_alloc ?_ _) | (with_reducible refine Kd.C_drewN ?_ _) | (with_reducible refine Kd.C_drew ?_)))
            (case side2 => exact (Kd.R_reads' HO_125000.out).2.1)
            (case side3 => repeat (first | exact (Kd.R_reads' HO_125001.out).2.2 | (with_reducible refine Kd.C_alloc ?_ _) | (with_reducible refine Kd.C_drewN ?_ _) | (with_reducible refine Kd.C_drew ?_)))
            (case side4 => exact (Kd.R_reads' HO_125001.out).2.1)
            (case side5 => repeat (first | exact (Kd.R_reads' HO_125002.out).2.2 | (with_reducible refine Kd.C_alloc ?_ _) | (with_reducible refine Kd.C_drewN ?_ _) | (with_reducible refine Kd.C_drew ?_)))
            (case side6 => exact (Kd.R_reads' HO_125002.out).2.1)
            (case side7 => repeat (first | exact (Kd.R_reads' HO130.out).2.2 | (with_reducible refine Kd.C_alloc ?_ _) | (with_reducible refine Kd.C_drewN ?_ _) | (with_reducible refine Kd.C_drew ?_)))
            (case side8 => exact (Kd.R_reads' HO130.out).2.1)
            (case side9 => repeat (first | exact (Kd.R_reads' HO133.out).2.2 | (with_reducible refine Kd.C_alloc ?_ _) | (with_reducible refine Kd.C_drewN ?_ _) | (with_reducible refine Kd.C_drew ?_)))
            (case side10 => exact (Kd.R_reads' HO133.out).2.1)
            (case side11 => repeat (first | exact (Kd.R_reads' HO136.out).2.2 | (with_reducible refine Kd.C_alloc ?_ _) | (with_reducible refine Kd.C_drewN ?_ _) | (with_reducible refine Kd.C_drew ?_)))
            (case side12 => exact (Kd.R_reads' HO136.out).2.1)
            rintro e w41 ⟨rfl, hb⟩
            refine ⟨_, rfl, ?_⟩
            have n0_ := Aside0.mk (Kd.R_below (by (with_reducible repeat (first | apply Kd.R_alloc | apply Kd.R_drewN | apply Kd.R_drew)); exact HO_125000.out) hb)
            have n1_ := Aside0.mk (Kd.R_below (by (with_reducible repeat (first | apply Kd.R_alloc | apply Kd.R_drewN | apply Kd.R_drew)); exact HO_125001.out) hb)
            have n2_ := Aside0.mk (Kd.R_below (by (with_reducible repeat (first | apply Kd.R_alloc | apply Kd.R_drewN | apply Kd.R_drew)); exact HO_125002.out) hb)
            have n3_ := Aside0.mk (Kd.R_below (by (with_reducible repeat (first | apply Kd.R_alloc | apply Kd.R_drewN | apply Kd.R_drew)); exact HO130.out) hb)
            have n4_ := Aside0.mk (Kd.R_below (by (with_reducible repeat (first | apply Kd.R_alloc | apply Kd.R_drewN | apply Kd.R_drew)); exact HO133.out) hb)
            have n5_ := Aside0.mk (Kd.R_below (by (with_reducible repeat (first | apply Kd.R_alloc | apply Kd.R_drewN | apply Kd.R_drew)); exact HO136.out) hb)
            have n6_ := Aside0.mk (blk_below (g := gb101) (o := .cells #[.slice A0_0 l0_0.length c0_0, .slice A0_1 l0_1.length c0_1, .slice A0_2 l0_2.length c0_2] 29 (0, 0)) (by (with_reducible repeat (first | refine blk_drewN ?_ _ | refine blk_drew ?_ | refine blk_alloc ?_ _)); exact BK101.out) hb)
            have n7_ := Aside0.mk (blk_below (g := gb124) (o := .cells #[.slice Ao24 t115.length co24, .slice Ao27 t118.length co27, .slice Ao28 t121.length co28] 32 (0, 0)) (by (with_reducible repeat (first | refine blk_drewN ?_ _ | refine blk_drew ?_ | refine blk_alloc ?_ _)); exact BK124.out) hb)
            have n8_ := Aside0.mk (below_step (by repeat (first | (with_reducible first | exact HB.out | apply below_alloc | apply pw_below_drewN | apply below_drew1 | refine below_set ?_ GE101.out | refine below_set ?_ GE124.out) | exact HB.out)) hb)
            clear HO_125000
            clear HO_125001
            clear HO_125002
            clear HO130
            clear HO133
            clear HO136
            clear BK101
            clear BK124
            clear HB
            have HO_125000 := n0_
            have HO_125001 := n1_
            have HO_125002 := n2_
            have HO130 := n3_
            have HO133 := n4_
            have HO136 := n5_
            have BK101 := n6_
            have BK124 := n7_
            have HB := n8_
            clear n0_ n1_ n2_ n3_ n4_ n5_ n6_ n7_ n8_
            (try clear hb)
            (try clear hb2)
            (try clear hk)
            (try clear hi)
            refine hK.out _ _ ⟨(blk_cell BK124.out 0).trans rfl, (blk_cell BK124.out 1).trans rfl, (blk_cell BK124.out 2).trans rfl, (blk_cell BK101.out 0).trans rfl, (blk_cell BK101.out 1).trans rfl, (blk_cell BK101.out 2).trans rfl⟩ (fun hHeld => ?_)
            clear hK K
            refine norm_ (a' := ?_) ?_ ?_
            rotate_left
            · show Act.put _ (some 47) _ = _
              simp only [Act.put, List.setIfInBounds_toArray, List.set_cons_zero, List.set_cons_succ, i64_w, i32_w]
              rfl
            refine pure_ (i := 4) (N := some 48) (v := ?_) (a' := ?_) #[true, true, true, true, true] rfl rfl (by kernel_rfl) (fun _ _ _ h => h) (Or.inl ⟨by rfl, ?_⟩) ?_ ?_
            rotate_left
            · intro w'
              go_simp
              with_reducible rfl
            rotate_left
            · simp only [Act.put, List.setIfInBounds_toArray, List.set_cons_zero, List.set_cons_succ, i64_w, i32_w]
              rfl
            refine done_ (by kernel_rfl) ?_
            try go_wp2
            go_ret
            exact ⟨by first | rfl | (simp [errW_none, errW_some] <;> rfl) | (simp [*, errW_none, errW_some] <;> rfl), by repeat (first | (with_reducible first | exact HB.out | apply below_alloc | apply pw_below_drewN | apply below_drew1 | refine below_set ?_ GE101.out | refine below_set ?_ GE124.out) | exact HB.out)⟩
          · replace c35 := Bool.eq_false_iff.mpr c35
            subst c35
            have H1 : (some false) = some r := by rw [if_neg (show ¬ (false = true) by decide)] at H; exact H
            clear H
            have H := H1
            clear H1
            obtain rfl := Option.some.inj H
            try go_wp2
            have n0_ := Aside0.mk (Kd.R_drew HO_125000.out)
            have n1_ := Aside0.mk (Kd.R_drew HO_125001.out)
            have n2_ := Aside0.mk (Kd.R_drew HO_125002.out)
            have n3_ := Aside0.mk (blk_drew BK101.out)
            have n4_ := Aside0.mk (blk_drew BK124.out)
            have n5_ := Aside0.mk (below_drew1 HB.out)
            clear HO_125000
            clear HO_125001
            clear HO_125002
            clear BK101
            clear BK124
            clear HB
            have HO_125000 := n0_
            have HO_125001 := n1_
            have HO_125002 := n2_
            have BK101 := n3_
            have BK124 := n4_
            have HB := n5_
            clear n0_ n1_ n2_ n3_ n4_ n5_
            refine start_ (n := 5) (S := fun w' => w'.cell? ⟨gb124, 0, none⟩ = some (.slice Ao24 t115.length co24) ∧ w'.cell? ⟨gb124, 1, none⟩ = some (.slice Ao27 t118.length co27) ∧ w'.cell? ⟨gb124, 2, none⟩ = some (.slice Ao28 t121.length co28) ∧ w'.cell? ⟨gb101, 0, none⟩ = some (.slice A0_0 l0_0.length c0_0) ∧ w'.cell? ⟨gb101, 1, none⟩ = some (.slice A0_1 l0_1.length c0_1) ∧ w'.cell? ⟨gb101, 2, none⟩ = some (.slice A0_2 l0_2.length c0_2)) (ds := []) #[false, false, false, false, false] (by kernel_rfl) rfl rfl ⟨(blk_cell BK124.out 0).trans rfl, (blk_cell BK124.out 1).trans rfl, (blk_cell BK124.out 2).trans rfl, (blk_cell BK101.out 0).trans rfl, (blk_cell BK101.out 1).trans rfl, (blk_cell BK101.out 2).trans rfl⟩ (fun hHeld => ?_)
            generalize wc.drew = w42 at HO_125000 HO_125001 HO_125002 BK101 BK124 HB hHeld ⊢
            refine take_ (i := 0) (N := some 44) (v := ?_) (a' := ?_) #[true, false, false, false, false] rfl rfl (by kernel_rfl) (fun _ _ _ h => h) (Or.inl ⟨by rfl, ?_⟩) hHeld ?_ ?_
            rotate_left
            · rintro w' ⟨s0, s1, s2, s3, s4, s5⟩
              go_simp
              with_reducible rfl
            rotate_left
            · simp only [Act.put, List.setIfInBounds_toArray, List.set_cons_zero, List.set_cons_succ, i64_w, i32_w]
              rfl
            refine take_ (i := 1) (N := some 45) (v := ?_) (a' := ?_) #[true, true, false, false, false] rfl rfl (by kernel_rfl) (fun _ _ _ h => h) (Or.inl ⟨by rfl, ?_⟩) hHeld ?_ ?_
            rotate_left
            · rintro w' ⟨s0, s1, s2, s3, s4, s5⟩
              go_simp
              with_reducible rfl
            rotate_left
            · simp only [Act.put, List.setIfInBounds_toArray, List.set_cons_zero, List.set_cons_succ, i64_w, i32_w]
              rfl
            refine one_ (i := 2) (N := some 46) #[true, true, true, false, false] rfl rfl (by kernel_rfl) (by decide) (fun K hK => ?_)
            refine goes_ Try.func21 (by kernel_rfl) rfl #[.agg #[.slice A0_0 l0_0.length c0_0, .slice A0_1 l0_1.length c0_1, .slice A0_2 l0_2.length c0_2]] (by rfl) rfl rfl (by (try simp only [List.map_toArray, List.map_cons, List.map_nil]); first | done | rfl | (simp only [List.length_drop, List.length_take]; rfl)) ?_
            with_reducible refine (laws_toJobs.calls kj10 _ _ l0_0 _ _ l0_1 _ _ l0_2 t128 t131 t134 _ ?side1 ?side2 ?side3 ?side4 ?side5 ?side6 A33.out).mono ?_
            (case side1 => repeat (first | exact (Kd.C_below HR0_0.out HB.out) | (with_reducible refine Kd.C_alloc ?_ _) | (with_reducible refine Kd.C_drewN ?_ _) | (with_reducible refine Kd.C_drew ?_)))
            (case side2 => exact HC0_0.out)
            (case side3 => repeat (first | exact (Kd.C_below HR0_1.out HB.out) | (with_reducible refine Kd.C_alloc ?_ _) | (with_reducible refine Kd.C_drewN ?_ _) | (with_reducible refine Kd.C_drew ?_)))
            (case side4 => exact HC0_1.out)
            (case side5 => repeat (first | exact (Kd.C_below HR0_2.out HB.out) | (with_reducible refine Kd.C_alloc ?_ _) | (with_reducible refine Kd.C_drewN ?_ _) | (with_reducible refine Kd.C_drew ?_)))
            (case side6 => exact HC0_2.out)
            rintro e w43 ⟨v129, v132, v135, rfl, ho0, ho1, ho2, hb⟩
            refine ⟨_, rfl, ?_⟩
            have n0_ := Aside0.mk (Kd.R_mono (Kd.R_told (Kd.R_told (Kd.R_told (Kd.R_old (by (with_reducible repeat (first | apply Kd.R_alloc | apply Kd.R_drewN | apply Kd.R_drew)); exact HO_125000.out) hb) (Kd.R_base ho0)) (Kd.R_base ho1)) (Kd.R_base ho2)) (fun _ h_ => h_.1))
            have n1_ := Aside0.mk (Kd.R_mono (Kd.R_told (Kd.R_told (Kd.R_told (Kd.R_old (by (with_reducible repeat (first | apply Kd.R_alloc | apply Kd.R_drewN | apply Kd.R_drew)); exact HO_125001.out) hb) (Kd.R_base ho0)) (Kd.R_base ho1)) (Kd.R_base ho2)) (fun _ h_ => h_.1))
            have n2_ := Aside0.mk (Kd.R_mono (Kd.R_told (Kd.R_told (Kd.R_told (Kd.R_old (by (with_reducible repeat (first | apply Kd.R_alloc | apply Kd.R_drewN | apply Kd.R_drew)); exact HO_125002.out) hb) (Kd.R_base ho0)) (Kd.R_base ho1)) (Kd.R_base ho2)) (fun _ h_ => h_.1))
            have n3_ := Aside0.mk (Kd.R_lower (Kd.R_new' (Kd.R_new' (Kd.R_new' ho0 (Kd.R_lt (by (with_reducible repeat (first | apply Kd.R_alloc | apply Kd.R_drewN | apply Kd.R_drew)); exact HO_125000.out))) (Kd.R_lt (by (with_reducible repeat (first | apply Kd.R_alloc | apply Kd.R_drewN | apply Kd.R_drew)); exact HO_125001.out))) (Kd.R_lt (by (with_reducible repeat (first | apply Kd.R_alloc | apply Kd.R_drewN | apply Kd.R_drew)); exact HO_125002.out))) (below_size (by repeat (first | (with_reducible first | exact HB.out | apply below_alloc | apply pw_below_drewN | apply below_drew1 | refine below_set ?_ GE101.out | refine below_set ?_ GE124.out) | exact HB.out))))
            have n4_ := Aside0.mk (Kd.R_lower (Kd.R_new' (Kd.R_new' (Kd.R_new' ho1 (Kd.R_lt (by (with_reducible repeat (first | apply Kd.R_alloc | apply Kd.R_drewN | apply Kd.R_drew)); exact HO_125000.out))) (Kd.R_lt (by (with_reducible repeat (first | apply Kd.R_alloc | apply Kd.R_drewN | apply Kd.R_drew)); exact HO_125001.out))) (Kd.R_lt (by (with_reducible repeat (first | apply Kd.R_alloc | apply Kd.R_drewN | apply Kd.R_drew)); exact HO_125002.out))) (below_size (by repeat (first | (with_reducible first | exact HB.out | apply below_alloc | apply pw_below_drewN | apply below_drew1 | refine below_set ?_ GE101.out | refine below_set ?_ GE124.out) | exact HB.out))))
            have n5_ := Aside0.mk (Kd.R_lower (Kd.R_new' (Kd.R_new' (Kd.R_new' ho2 (Kd.R_lt (by (with_reducible repeat (first | apply Kd.R_alloc | apply Kd.R_drewN | apply Kd.R_drew)); exact HO_125000.out))) (Kd.R_lt (by (with_reducible repeat (first | apply Kd.R_alloc | apply Kd.R_drewN | apply Kd.R_drew)); exact HO_125001.out))) (Kd.R_lt (by (with_reducible repeat (first | apply Kd.R_alloc | apply Kd.R_drewN | apply Kd.R_drew)); exact HO_125002.out))) (below_size (by repeat (first | (with_reducible first | exact HB.out | apply below_alloc | apply pw_below_drewN | apply below_drew1 | refine below_set ?_ GE101.out | refine below_set ?_ GE124.out) | exact HB.out))))
            have n6_ := Aside0.mk (blk_below (g := gb101) (o := .cells #[.slice A0_0 l0_0.length c0_0, .slice A0_1 l0_1.length c0_1, .slice A0_2 l0_2.length c0_2] 29 (0, 0)) (by (with_reducible repeat (first | refine blk_drewN ?_ _ | refine blk_drew ?_ | refine blk_alloc ?_ _)); exact BK101.out) hb)
            have n7_ := Aside0.mk (blk_below (g := gb124) (o := .cells #[.slice Ao24 t115.length co24, .slice Ao27 t118.length co27, .slice Ao28 t121.length co28] 32 (0, 0)) (by (with_reducible repeat (first | refine blk_drewN ?_ _ | refine blk_drew ?_ | refine blk_alloc ?_ _)); exact BK124.out) hb)
            have n8_ := Aside0.mk (below_step (by repeat (first | (with_reducible first | exact HB.out | apply below_alloc | apply pw_below_drewN | apply below_drew1 | refine below_set ?_ GE101.out | refine below_set ?_ GE124.out) | exact HB.out)) hb)
            clear HO_125000
            clear HO_125001
            clear HO_125002
            clear BK101
            clear BK124
            clear HB
            have HO_125000 := n0_
            have HO_125001 := n1_
            have HO_125002 := n2_
            have HO130 := n3_
            have HO133 := n4_
            have HO136 := n5_
            have BK101 := n6_
            have BK124 := n7_
            have HB := n8_
            clear n0_ n1_ n2_ n3_ n4_ n5_ n6_ n7_ n8_
            (try clear hb)
            (try clear hb2)
            (try clear hk)
            (try clear hi)
            (try clear ho0)
            (try clear ho1)
            (try clear ho2)
            obtain ⟨Ao44, co44, eo44⟩ := Kd.R_slice HO130.out
            (first | subst eo44 | (injection eo44 with f1_ f2_ f3_; have f4_ := f1_.symm; have f5_ := f3_.symm; clear f1_ f2_ f3_; subst f4_; subst f5_))
            obtain ⟨Ao45, co45, eo45⟩ := Kd.R_slice HO133.out
            (first | subst eo45 | (injection eo45 with f1_ f2_ f3_; have f4_ := f1_.symm; have f5_ := f3_.symm; clear f1_ f2_ f3_; subst f4_; subst f5_))
            obtain ⟨Ao46, co46, eo46⟩ := Kd.R_slice HO136.out
            (first | subst eo46 | (injection eo46 with f1_ f2_ f3_; have f4_ := f1_.symm; have f5_ := f3_.symm; clear f1_ f2_ f3_; subst f4_; subst f5_))
            refine hK.out _ _ ⟨(blk_cell BK124.out 0).trans rfl, (blk_cell BK124.out 1).trans rfl, (blk_cell BK124.out 2).trans rfl, (blk_cell BK101.out 0).trans rfl, (blk_cell BK101.out 1).trans rfl, (blk_cell BK101.out 2).trans rfl⟩ (fun hHeld => ?_)
            clear hK K
            refine norm_ (a' := ?_) ?_ ?_
            rotate_left
            · show Act.put _ (some 46) _ = _
              simp only [Act.put, List.setIfInBounds_toArray, List.set_cons_zero, List.set_cons_succ, i64_w, i32_w]
              rfl
            refine one_ (i := 3) (N := some 47) #[true, true, true, true, false] rfl rfl (by kernel_rfl) (by decide) (fun K hK => ?_)
            refine goes_ Try.func23 (by kernel_rfl) rfl #[.agg #[.slice Ao24 t115.length co24, .slice Ao27 t118.length co27, .slice Ao28 t121.length co28], .agg #[.slice Ao44 t128.length co44, .slice Ao45 t131.length co45, .slice Ao46 t134.length co46]] (by rfl) rfl rfl (by (try simp only [List.map_toArray, List.map_cons, List.map_nil]); first | done | rfl | (simp only [List.length_drop, List.length_take]; rfl)) ?_
            with_reducible refine (laws_eqJobs.calls kj10 _ _ t115 _ _ t118 _ _ t121 _ _ t128 _ _ t131 _ _ t134 false _ ?side1 ?side2 ?side3 ?side4 ?side5 ?side6 ?side7 ?side8 ?side9 ?side10 ?side11 ?side12 A34.out).mono ?_
            (case side1 => repeat (first | exact (Kd.R_reads' HO_125000.out).2.2 | (with_reducible refine Kd.C_alloc ?_ _) | (with_reducible refine Kd.C_drewN ?_ _) | (with_reducible refine Kd.C_drew ?_)))
            (case side2 => exact (Kd.R_reads' HO_125000.out).2.1)
            (case side3 => repeat (first | exact (Kd.R_reads' HO_125001.out).2.2 | (with_reducible refine Kd.C_alloc ?_ _) | (with_reducible refine Kd.C_drewN ?_ _) | (with_reducible refine Kd.C_drew ?_)))
            (case side4 => exact (Kd.R_reads' HO_125001.out).2.1)
            (case side5 => repeat (first | exact (Kd.R_reads' HO_125002.out).2.2 | (with_reducible refine Kd.C_alloc ?_ _) | (with_reducible refine Kd.C_drewN ?_ _) | (with_reducible refine Kd.C_drew ?_)))
            (case side6 => exact (Kd.R_reads' HO_125002.out).2.1)
            (case side7 => repeat (first | exact (Kd.R_reads' HO130.out).2.2 | (with_reducible refine Kd.C_alloc ?_ _) | (with_reducible refine Kd.C_drewN ?_ _) | (with_reducible refine Kd.C_drew ?_)))
            (case side8 => exact (Kd.R_reads' HO130.out).2.1)
            (case side9 => repeat (first | exact (Kd.R_reads' HO133.out).2.2 | (with_reducible refine Kd.C_alloc ?_ _) | (with_reducible refine Kd.C_drewN ?_ _) | (with_reducible refine Kd.C_drew ?_)))
            (case side10 => exact (Kd.R_reads' HO133.out).2.1)
            (case side11 => repeat (first | exact (Kd.R_reads' HO136.out).2.2 | (with_reducible refine Kd.C_alloc ?_ _) | (with_reducible refine Kd.C_drewN ?_ _) | (with_reducible refine Kd.C_drew ?_)))
            (case side12 => exact (Kd.R_reads' HO136.out).2.1)
            rintro e w47 ⟨rfl, hb⟩
            refine ⟨_, rfl, ?_⟩
            have n0_ := Aside0.mk (Kd.R_below (by (with_reducible repeat (first | apply Kd.R_alloc | apply Kd.R_drewN | apply Kd.R_drew)); exact HO_125000.out) hb)
            have n1_ := Aside0.mk (Kd.R_below (by (with_reducible repeat (first | apply Kd.R_alloc | apply Kd.R_drewN | apply Kd.R_drew)); exact HO_125001.out) hb)
            have n2_ := Aside0.mk (Kd.R_below (by (with_reducible repeat (first | apply Kd.R_alloc | apply Kd.R_drewN | apply Kd.R_drew)); exact HO_125002.out) hb)
            have n3_ := Aside0.mk (Kd.R_below (by (with_reducible repeat (first | apply Kd.R_alloc | apply Kd.R_drewN | apply Kd.R_drew)); exact HO130.out) hb)
            have n4_ := Aside0.mk (Kd.R_below (by (with_reducible repeat (first | apply Kd.R_alloc | apply Kd.R_drewN | apply Kd.R_drew)); exact HO133.out) hb)
            have n5_ := Aside0.mk (Kd.R_below (by (with_reducible repeat (first | apply Kd.R_alloc | apply Kd.R_drewN | apply Kd.R_drew)); exact HO136.out) hb)
            have n6_ := Aside0.mk (blk_below (g := gb101) (o := .cells #[.slice A0_0 l0_0.length c0_0, .slice A0_1 l0_1.length c0_1, .slice A0_2 l0_2.length c0_2] 29 (0, 0)) (by (with_reducible repeat (first | refine blk_drewN ?_ _ | refine blk_drew ?_ | refine blk_alloc ?_ _)); exact BK101.out) hb)
            have n7_ := Aside0.mk (blk_below (g := gb124) (o := .cells #[.slice Ao24 t115.length co24, .slice Ao27 t118.length co27, .slice Ao28 t121.length co28] 32 (0, 0)) (by (with_reducible repeat (first | refine blk_drewN ?_ _ | refine blk_drew ?_ | refine blk_alloc ?_ _)); exact BK124.out) hb)
            have n8_ := Aside0.mk (below_step (by repeat (first | (with_reducible first | exact HB.out | apply below_alloc | apply pw_below_drewN | apply below_drew1 | refine below_set ?_ GE101.out | refine below_set ?_ GE124.out) | exact HB.out)) hb)
            clear HO_125000
            clear HO_125001
            clear HO_125002
            clear HO130
            clear HO133
            clear HO136
            clear BK101
            clear BK124
            clear HB
            have HO_125000 := n0_
            have HO_125001 := n1_
            have HO_125002 := n2_
            have HO130 := n3_
            have HO133 := n4_
            have HO136 := n5_
            have BK101 := n6_
            have BK124 := n7_
            have HB := n8_
            clear n0_ n1_ n2_ n3_ n4_ n5_ n6_ n7_ n8_
            (try clear hb)
            (try clear hb2)
            (try clear hk)
            (try clear hi)
            refine hK.out _ _ ⟨(blk_cell BK124.out 0).trans rfl, (blk_cell BK124.out 1).trans rfl, (blk_cell BK124.out 2).trans rfl, (blk_cell BK101.out 0).trans rfl, (blk_cell BK101.out 1).trans rfl, (blk_cell BK101.out 2).trans rfl⟩ (fun hHeld => ?_)
            clear hK K
            refine norm_ (a' := ?_) ?_ ?_
            rotate_left
            · show Act.put _ (some 47) _ = _
              simp only [Act.put, List.setIfInBounds_toArray, List.set_cons_zero, List.set_cons_succ, i64_w, i32_w]
              rfl
            refine pure_ (i := 4) (N := some 48) (v := ?_) (a' := ?_) #[true, true, true, true, true] rfl rfl (by kernel_rfl) (fun _ _ _ h => h) (Or.inl ⟨by rfl, ?_⟩) ?_ ?_
            rotate_left
            · intro w'
              go_simp
              with_reducible rfl
            rotate_left
            · simp only [Act.put, List.setIfInBounds_toArray, List.set_cons_zero, List.set_cons_succ, i64_w, i32_w]
              rfl
            refine done_ (by kernel_rfl) ?_
            try go_wp2
            go_ret
            exact ⟨by first | rfl | (simp [errW_none, errW_some] <;> rfl) | (simp [*, errW_none, errW_some] <;> rfl), by repeat (first | (with_reducible first | exact HB.out | apply below_alloc | apply pw_below_drewN | apply below_drew1 | refine below_set ?_ GE101.out | refine below_set ?_ GE124.out) | exact HB.out)⟩
/-- THE ONE PURE STATEMENT of laws_FnExactFirstLate. -/
def laws_FnExactFirstLate.Pure : Prop := ∀ (l0_0 : List Int) (l0_1 : List Int) (l0_2 : List Int), okRow (okInt .i64) l0_0 → okRow (okInt .i64) l0_1 → okRow (okInt .i64) l0_2 → ∃ k, laws_FnExactFirstLate.f k l0_0 l0_1 l0_2 = some true
theorem laws_FnExactFirstLate.walk (P : laws_FnExactFirstLate.Pure) (A0_0 : Option Addr) (c0_0 : Nat) (l0_0 : List Int) (A0_1 : Option Addr) (c0_1 : Nat) (l0_1 : List Int) (A0_2 : Option Addr) (c0_2 : Nat) (l0_2 : List Int) (w : World) (hr0_0 : Kd.C (Kd.int .i64) w A0_0 l0_0.length l0_0) (hc0_0 : l0_0.length ≤ c0_0) (hr0_1 : Kd.C (Kd.int .i64) w A0_1 l0_1.length l0_1) (hc0_1 : l0_1.length ≤ c0_1) (hr0_2 : Kd.C (Kd.int .i64) w A0_2 l0_2.length l0_2) (hc0_2 : l0_2.length ≤ c0_2) (w0_0 : okRow (okInt .i64) l0_0) (w0_1 : okRow (okInt .i64) l0_1) (w0_2 : okRow (okInt .i64) l0_2) :
    Calls Try.prog 5 #[.agg #[.slice A0_0 l0_0.length c0_0, .slice A0_1 l0_1.length c0_1, .slice A0_2 l0_2.length c0_2]] w fun e w' => e = .returned (.bool true) ∧ Below w.heap.size w w' := by
  obtain ⟨k, h⟩ := P l0_0 l0_1 l0_2 w0_0 w0_1 w0_2
  refine (laws_FnExactFirstLate.calls k A0_0 c0_0 l0_0 A0_1 c0_1 l0_1 A0_2 c0_2 l0_2 true w hr0_0 hc0_0 hr0_1 hc0_1 hr0_2 hc0_2 h).mono ?_
  rintro e w' ⟨rfl, hd⟩
  exact ⟨rfl, hd⟩
end Go.Proofs.Ytjkgjmaldbmgmaa.P
end
section
namespace Go.Proofs.Ytjkgjmaldbmgmaa.P
open Go.RowKit Go.Proofs.YtjkgjmaldbmgmaaW.PrintWords Go.Proofs.YtjkgjmaldbmgmaaW.PrintLast Go.Proofs.YtjkgjmaldbmgmaaW.PrintMore
attribute [local go_sem] max2_int min2_int max_two min_two max_three min_three max_four min_four   -- for this text's walks alone
set_option linter.unusedVariables false
set_option linter.unusedSimpArgs false
def slices_Max_Sint64_int64.l0 : Nat → List Int → Int → Int → Option (Int)
  | 0, _, _, _ => none
  | k + 1, x0, x3, x4 => if x4 < (x0.length : Int) then (if 0 ≤ x4 then (slices_Max_Sint64_int64.l0 k x0 (mx x3 (rd x0 x4)) (wrap64 (x4 + 1))) else (none)) else (some x3)
def slices_Max_Sint64_int64.f (k : Nat) (l0 : List Int) : Option (Int) := if (l0.length : Int) < 1 then (none) else (if 0 < (l0.length : Int) then (slices_Max_Sint64_int64.l0 k l0 (rd l0 0) 1) else (none))
theorem slices_Max_Sint64_int64.mono_l : ∀ k, (∀ y0 y1 y2, LeO (slices_Max_Sint64_int64.l0 k y0 y1 y2) (slices_Max_Sint64_int64.l0 (k + 1) y0 y1 y2))
  | 0 => fun _ _ _ r h => by simp [slices_Max_Sint64_int64.l0] at h
  | k + 1 => by
    have ih0 := slices_Max_Sint64_int64.mono_l k
    · intro y0 y1 y2
      unfold slices_Max_Sint64_int64.l0
      repeat' first
      | (with_reducible exact ih0 _ _ _)
      | (with_reducible exact LeO.refl _)
      | (with_reducible exact LeO.none _)
      | (with_reducible refine LeO.ite ?_ ?_)
      | (with_reducible refine LeO.bind ?_ (fun _ => ?_))
      | exact ih0 _ _ _
      | exact LeO.none _
      | refine LeO.ite ?_ ?_
      | refine LeO.bind ?_ (fun _ => ?_)
theorem slices_Max_Sint64_int64.mono : ∀ a0 k, LeO (slices_Max_Sint64_int64.f k a0) (slices_Max_Sint64_int64.f (k + 1) a0) := by
  intro a0 k
  have ih0 := slices_Max_Sint64_int64.mono_l k
  unfold slices_Max_Sint64_int64.f
  repeat' first
      | (with_reducible exact ih0 _ _ _)
      | (with_reducible exact LeO.refl _)
      | (with_reducible exact LeO.none _)
      | (with_reducible refine LeO.ite ?_ ?_)
      | (with_reducible refine LeO.bind ?_ (fun _ => ?_))
      | exact ih0 _ _ _
      | exact LeO.none _
      | refine LeO.ite ?_ ?_
      | refine LeO.bind ?_ (fun _ => ?_)
end Go.Proofs.Ytjkgjmaldbmgmaa.P
end
section
namespace Go.Proofs.Ytjkgjmaldbmgmaa.P
open Go.RowKit Go.Proofs.YtjkgjmaldbmgmaaW.PrintWords Go.Proofs.YtjkgjmaldbmgmaaW.PrintLast Go.Proofs.YtjkgjmaldbmgmaaW.PrintMore
attribute [local go_sem] max2_int min2_int max_two min_two max_three min_three max_four min_four   -- for this text's walks alone
set_option linter.unusedVariables false
set_option linter.unusedSimpArgs false
def impl_share.l0 : Nat → Int → Int → List Int → Int → Int → Option (Int)
  | 0, _, _, _, _, _ => none
  | k + 1, x1, x5, x8, x9, x10 => if x10 < x9 then (if 0 ≤ x10 then (if x10 < (x8.length : Int) then (if (rd x8 x10) = x1 then (impl_share.l0 k x1 (wrap64 (x5 + 1)) x8 x9 (wrap64 (x10 + 1))) else (impl_share.l0 k x1 x5 x8 x9 (wrap64 (x10 + 1)))) else (none)) else (none)) else (some x5)
def impl_share.f (k : Nat) (l0 : List Int) (a1 : Int) : Option (Int) := impl_share.l0 k a1 0 l0 (l0.length : Int) 0
theorem impl_share.mono_l : ∀ k, (∀ y0 y1 y2 y3 y4, LeO (impl_share.l0 k y0 y1 y2 y3 y4) (impl_share.l0 (k + 1) y0 y1 y2 y3 y4))
  | 0 => fun _ _ _ _ _ r h => by simp [impl_share.l0] at h
  | k + 1 => by
    have ih0 := impl_share.mono_l k
    · intro y0 y1 y2 y3 y4
      unfold impl_share.l0
      repeat' first
      | (with_reducible exact ih0 _ _ _ _ _)
      | (with_reducible exact LeO.refl _)
      | (with_reducible exact LeO.none _)
      | (with_reducible refine LeO.ite ?_ ?_)
      | (with_reducible refine LeO.bind ?_ (fun _ => ?_))
      | exact ih0 _ _ _ _ _
      | exact LeO.none _
      | refine LeO.ite ?_ ?_
      | refine LeO.bind ?_ (fun _ => ?_)
theorem impl_share.mono : ∀ a0 a1 k, LeO (impl_share.f k a0 a1) (impl_share.f (k + 1) a0 a1) := by
  intro a0 a1 k
  have ih0 := impl_share.mono_l k
  unfold impl_share.f
  repeat' first
      | (with_reducible exact ih0 _ _ _ _ _)
      | (with_reducible exact LeO.refl _)
      | (with_reducible exact LeO.none _)
      | (with_reducible refine LeO.ite ?_ ?_)
      | (with_reducible refine LeO.bind ?_ (fun _ => ?_))
      | exact ih0 _ _ _ _ _
      | exact LeO.none _
      | refine LeO.ite ?_ ?_
      | refine LeO.bind ?_ (fun _ => ?_)
end Go.Proofs.Ytjkgjmaldbmgmaa.P
end
section
namespace Go.Proofs.Ytjkgjmaldbmgmaa.P
open Go.RowKit Go.Proofs.YtjkgjmaldbmgmaaW.PrintWords Go.Proofs.YtjkgjmaldbmgmaaW.PrintLast Go.Proofs.YtjkgjmaldbmgmaaW.PrintMore
attribute [local go_sem] max2_int min2_int max_two min_two max_three min_three max_four min_four   -- for this text's walks alone
set_option linter.unusedVariables false
set_option linter.unusedSimpArgs false
def impl_sharesOf.l0 : Nat → List Int → List Int → Int → Int → Option (List Int)
  | 0, _, _, _, _ => none
  | k + 1, x0, x3, x7, x8 => if x8 < x7 then ((impl_share.f k x0 x8).bind fun t102 => (if x3.length < 17592186044416 then (impl_sharesOf.l0 k x0 (x3 ++ [t102]) x7 (wrap64 (x8 + 1))) else (none))) else (some x3)
def impl_sharesOf.f (k : Nat) (l0 : List Int) : Option (List Int) := (slices_Max_Sint64_int64.f k l0).bind fun t101 => (impl_sharesOf.l0 k l0 ([] : List Int) (wrap64 (t101 + 1)) 0)
theorem impl_sharesOf.mono_l : ∀ k, (∀ y0 y1 y2 y3, LeO (impl_sharesOf.l0 k y0 y1 y2 y3) (impl_sharesOf.l0 (k + 1) y0 y1 y2 y3))
  | 0 => fun _ _ _ _ r h => by simp [impl_sharesOf.l0] at h
  | k + 1 => by
    have ih0 := impl_sharesOf.mono_l k
    · intro y0 y1 y2 y3
      unfold impl_sharesOf.l0
      repeat' first
      | (with_reducible exact ih0 _ _ _ _)
      | (with_reducible exact impl_share.mono _ _ _)
      | (with_reducible exact slices_Max_Sint64_int64.mono _ _)
      | (with_reducible exact LeO.refl _)
      | (with_reducible exact LeO.none _)
      | (with_reducible refine LeO.ite ?_ ?_)
      | (with_reducible refine LeO.bind ?_ (fun _ => ?_))
      | exact ih0 _ _ _ _
      | exact impl_share.mono _ _ _
      | exact slices_Max_Sint64_int64.mono _ _
      | exact LeO.none _
      | refine LeO.ite ?_ ?_
      | refine LeO.bind ?_ (fun _ => ?_)
theorem impl_sharesOf.mono : ∀ a0 k, LeO (impl_sharesOf.f k a0) (impl_sharesOf.f (k + 1) a0) := by
  intro a0 k
  have ih0 := impl_sharesOf.mono_l k
  unfold impl_sharesOf.f
  repeat' first
      | (with_reducible exact ih0 _ _ _ _)
      | (with_reducible exact impl_share.mono _ _ _)
      | (with_reducible exact slices_Max_Sint64_int64.mono _ _)
      | (with_reducible exact LeO.refl _)
      | (with_reducible exact LeO.none _)
      | (with_reducible refine LeO.ite ?_ ?_)
      | (with_reducible refine LeO.bind ?_ (fun _ => ?_))
      | exact ih0 _ _ _ _
      | exact impl_share.mono _ _ _
      | exact slices_Max_Sint64_int64.mono _ _
      | exact LeO.none _
      | refine LeO.ite ?_ ?_
      | refine LeO.bind ?_ (fun _ => ?_)
end Go.Proofs.Ytjkgjmaldbmgmaa.P
end
section
namespace Go.Proofs.Ytjkgjmaldbmgmaa.P
open Go.RowKit Go.Proofs.YtjkgjmaldbmgmaaW.PrintWords Go.Proofs.YtjkgjmaldbmgmaaW.PrintLast Go.Proofs.YtjkgjmaldbmgmaaW.PrintMore
attribute [local go_sem] max2_int min2_int max_two min_two max_three min_three max_four min_four   -- for this text's walks alone
set_option linter.unusedVariables false
set_option linter.unusedSimpArgs false
mutual
def difs.l0 (st : Int → Int → Int) : Nat → List Int → List Int → List Int → Int → Int → Int → Option Int
  | 0, _, _, _, _, _, _ => none
  | k + 1, t, s, m, all, n, a => if n < wrap64 (all + 1) then (difs.l1 st k t s m all n 0 a) else (some a)
def difs.l1 (st : Int → Int → Int) : Nat → List Int → List Int → List Int → Int → Int → Int → Int → Option Int
  | 0, _, _, _, _, _, _, _ => none
  | k + 1, t, s, m, all, n, i, a => if i < (s.length : Int) then (if 0 ≤ i then (if i < (m.length : Int) then (difs.l1 st k t s m all n (wrap64 (i + 1)) (st a (wrap64 ((wrap64 (all * (rd m i))) - (wrap64 (n * (rd s i))))))) else (none)) else (none)) else (if n < all then (if 0 ≤ n then (if n < (t.length : Int) then (if 0 ≤ rd t n then (if rd t n < (m.length : Int) then (difs.l0 st k t s (m.set (rd t n).toNat (wrap64 ((rd m (rd t n)) + 1))) all (wrap64 (n + 1)) a) else (none)) else (none)) else (none)) else (none)) else (difs.l0 st k t s m all (wrap64 (n + 1)) a))
end
def difs.f (st : Int → Int → Int) (k : Nat) (t s : List Int) (a : Int) : Option Int := if s.length ≤ 35184372088832 then (difs.l0 st k t s (List.replicate s.length 0) (t.length : Int) 0 a) else (none)
theorem difs.mono_l (st : Int → Int → Int) : ∀ k, (∀ y0 y1 y2 y3 y4 y5, LeO (difs.l0 st k y0 y1 y2 y3 y4 y5) (difs.l0 st (k + 1) y0 y1 y2 y3 y4 y5)) ∧ (∀ y0 y1 y2 y3 y4 y5 y6, LeO (difs.l1 st k y0 y1 y2 y3 y4 y5 y6) (difs.l1 st (k + 1) y0 y1 y2 y3 y4 y5 y6))
  | 0 => ⟨fun _ _ _ _ _ _ r h => by simp [difs.l0] at h, fun _ _ _ _ _ _ _ r h => by simp [difs.l1] at h⟩
  | k + 1 => by
    obtain ⟨ih0, ih1⟩ := difs.mono_l st k
    refine ⟨?_, ?_⟩
    · intro y0 y1 y2 y3 y4 y5
      unfold difs.l0
      repeat' first
        | (with_reducible exact ih1 _ _ _ _ _ _ _)
        | (with_reducible exact LeO.refl _)
        | (with_reducible exact LeO.none _)
        | (with_reducible refine LeO.ite ?_ ?_)
    · intro y0 y1 y2 y3 y4 y5 y6
      unfold difs.l1
      repeat' first
        | (with_reducible exact ih0 _ _ _ _ _ _)
        | (with_reducible exact ih1 _ _ _ _ _ _ _)
        | (with_reducible exact LeO.refl _)
        | (with_reducible exact LeO.none _)
        | (with_reducible refine LeO.ite ?_ ?_)
theorem difs.mono (st : Int → Int → Int) : ∀ a0 a1 a2 k, LeO (difs.f st k a0 a1 a2) (difs.f st (k + 1) a0 a1 a2) := by
  intro a0 a1 a2 k
  obtain ⟨ih0, _⟩ := difs.mono_l st k
  unfold difs.f
  exact LeO.ite (ih0 _ _ _ _ _ _) (LeO.none _)
def sqD (a d : Int) : Int := wrap64 (a + wrap64 (d * d))
def impl_squares.f (k : Nat) (l0 : List Int) : Option Int := (impl_sharesOf.f k l0).bind fun s => (difs.f sqD k l0 s 0)
theorem impl_squares.mono : ∀ a0 k, LeO (impl_squares.f k a0) (impl_squares.f (k + 1) a0) := by
  intro a0 k
  unfold impl_squares.f
  exact LeO.bind (impl_sharesOf.mono _ _) (fun _ => difs.mono _ _ _ _ _)
end Go.Proofs.Ytjkgjmaldbmgmaa.P
end
section
namespace Go.Proofs.Ytjkgjmaldbmgmaa.P
open Go.RowKit Go.Proofs.YtjkgjmaldbmgmaaW.PrintWords Go.Proofs.YtjkgjmaldbmgmaaW.PrintLast Go.Proofs.YtjkgjmaldbmgmaaW.PrintMore
attribute [local go_sem] max2_int min2_int max_two min_two max_three min_three max_four min_four   -- for this text's walks alone
set_option linter.unusedVariables false
set_option linter.unusedSimpArgs false
def slices_Clone_Sint64_int64.f (l0 : List Int) : Option (List Int) := if l0.length < 17592186044416 then some l0 else none
end Go.Proofs.Ytjkgjmaldbmgmaa.P
end
section
namespace Go.Proofs.Ytjkgjmaldbmgmaa.P
open Go.RowKit Go.Proofs.YtjkgjmaldbmgmaaW.PrintWords Go.Proofs.YtjkgjmaldbmgmaaW.PrintLast Go.Proofs.YtjkgjmaldbmgmaaW.PrintMore
attribute [local go_sem] max2_int min2_int max_two min_two max_three min_three max_four min_four   -- for this text's walks alone
set_option linter.unusedVariables false
set_option linter.unusedSimpArgs false
def impl_exchanged.f (l0 : List Int) (a1 : Int) (a2 : Int) : Option (List Int) := (slices_Clone_Sint64_int64.f l0).bind fun t101 => (if 0 ≤ a2 then (if a2 < (l0.length : Int) then (if 0 ≤ a1 then (if a1 < (l0.length : Int) then (if a1 < (t101.length : Int) then (if a2 < (t101.length : Int) then (some ((t101.set (a1 : Int).toNat (rd l0 a2)).set (a2 : Int).toNat (rd l0 a1))) else (none)) else (none)) else (none)) else (none)) else (none)) else (none))
end Go.Proofs.Ytjkgjmaldbmgmaa.P
end
section
namespace Go.Proofs.Ytjkgjmaldbmgmaa.P
open Go.RowKit Go.Proofs.YtjkgjmaldbmgmaaW.PrintWords Go.Proofs.YtjkgjmaldbmgmaaW.PrintLast Go.Proofs.YtjkgjmaldbmgmaaW.PrintMore
attribute [local go_sem] max2_int min2_int max_two min_two max_three min_three max_four min_four   -- for this text's walks alone
set_option linter.unusedVariables false
set_option linter.unusedSimpArgs false
mutual
def impl_bestExchange.l0 : Nat → List Int → Int → Int → Int → Bool → Int → Int → Option (Int × Int × Bool)
  | 0, _, _, _, _, _, _, _ => none
  | k + 1, x0, x5, x6, x7, x8, x15, x16 => if x16 < x15 then (impl_bestExchange.l1 k x0 x5 x6 x7 x8 x16 (wrap64 (x16 + 1)) x15 x16) else (some (x6, x7, x8))
def impl_bestExchange.l1 : Nat → List Int → Int → Int → Int → Bool → Int → Int → Int → Int → Option (Int × Int × Bool)
  | 0, _, _, _, _, _, _, _, _, _ => none
  | k + 1, x0, x5, x6, x7, x8, x9, x10, x15, x16 => (impl_length_int64.f x0).bind fun t103 => (if x10 < t103 then ((impl_exchanged.f x0 x9 x10).bind fun t104 => ((impl_squares.f k t104).bind fun t107 => (if t107 < x5 then (impl_bestExchange.l1 k x0 t107 x9 x10 true x9 (wrap64 (x10 + 1)) x15 x16) else (impl_bestExchange.l1 k x0 x5 x6 x7 x8 x9 (wrap64 (x10 + 1)) x15 x16)))) else (impl_bestExchange.l0 k x0 x5 x6 x7 x8 x15 (wrap64 (x16 + 1))))
end
def impl_bestExchange.f (k : Nat) (l0 : List Int) : Option (Int × Int × Bool) := (impl_squares.f k l0).bind fun t101 => ((impl_length_int64.f l0).bind fun t102 => (impl_bestExchange.l0 k l0 t101 0 0 false t102 0))
theorem impl_bestExchange.mono_l : ∀ k, (∀ y0 y1 y2 y3 y4 y5 y6, LeO (impl_bestExchange.l0 k y0 y1 y2 y3 y4 y5 y6) (impl_bestExchange.l0 (k + 1) y0 y1 y2 y3 y4 y5 y6)) ∧ (∀ y0 y1 y2 y3 y4 y5 y6 y7 y8, LeO (impl_bestExchange.l1 k y0 y1 y2 y3 y4 y5 y6 y7 y8) (impl_bestExchange.l1 (k + 1) y0 y1 y2 y3 y4 y5 y6 y7 y8))
  | 0 => ⟨fun _ _ _ _ _ _ _ r h => by simp [impl_bestExchange.l0] at h, fun _ _ _ _ _ _ _ _ _ r h => by simp [impl_bestExchange.l1] at h⟩
  | k + 1 => by
    obtain ⟨ih0, ih1⟩ := impl_bestExchange.mono_l k
    refine ⟨?_, ?_⟩
    · intro y0 y1 y2 y3 y4 y5 y6
      unfold impl_bestExchange.l0
      repeat' first
      | (with_reducible exact ih0 _ _ _ _ _ _ _)
      | (with_reducible exact ih1 _ _ _ _ _ _ _ _ _)
      | (with_reducible exact impl_squares.mono _ _)
      | (with_reducible exact LeO.refl _)
      | (with_reducible exact LeO.none _)
      | (with_reducible refine LeO.ite ?_ ?_)
      | (with_reducible refine LeO.bind ?_ (fun _ => ?_))
      | exact ih0 _ _ _ _ _ _ _
      | exact ih1 _ _ _ _ _ _ _ _ _
      | exact impl_squares.mono _ _
      | exact LeO.none _
      | refine LeO.ite ?_ ?_
      | refine LeO.bind ?_ (fun _ => ?_)
    · intro y0 y1 y2 y3 y4 y5 y6 y7 y8
      unfold impl_bestExchange.l1
      repeat' first
      | (with_reducible exact ih0 _ _ _ _ _ _ _)
      | (with_reducible exact ih1 _ _ _ _ _ _ _ _ _)
      | (with_reducible exact impl_squares.mono _ _)
      | (with_reducible exact LeO.refl _)
      | (with_reducible exact LeO.none _)
      | (with_reducible refine LeO.ite ?_ ?_)
      | (with_reducible refine LeO.bind ?_ (fun _ => ?_))
      | exact ih0 _ _ _ _ _ _ _
      | exact ih1 _ _ _ _ _ _ _ _ _
      | exact impl_squares.mono _ _
      | exact LeO.none _
      | refine LeO.ite ?_ ?_
      | refine LeO.bind ?_ (fun _ => ?_)
theorem impl_bestExchange.mono : ∀ a0 k, LeO (impl_bestExchange.f k a0) (impl_bestExchange.f (k + 1) a0) := by
  intro a0 k
  obtain ⟨ih0, ih1⟩ := impl_bestExchange.mono_l k
  unfold impl_bestExchange.f
  repeat' first
      | (with_reducible exact ih0 _ _ _ _ _ _ _)
      | (with_reducible exact ih1 _ _ _ _ _ _ _ _ _)
      | (with_reducible exact impl_squares.mono _ _)
      | (with_reducible exact LeO.refl _)
      | (with_reducible exact LeO.none _)
      | (with_reducible refine LeO.ite ?_ ?_)
      | (with_reducible refine LeO.bind ?_ (fun _ => ?_))
      | exact ih0 _ _ _ _ _ _ _
      | exact ih1 _ _ _ _ _ _ _ _ _
      | exact impl_squares.mono _ _
      | exact LeO.none _
      | refine LeO.ite ?_ ?_
      | refine LeO.bind ?_ (fun _ => ?_)
end Go.Proofs.Ytjkgjmaldbmgmaa.P
end
section
namespace Go.Proofs.Ytjkgjmaldbmgmaa.P
open Go.RowKit Go.Proofs.YtjkgjmaldbmgmaaW.PrintWords Go.Proofs.YtjkgjmaldbmgmaaW.PrintLast Go.Proofs.YtjkgjmaldbmgmaaW.PrintMore
attribute [local go_sem] max2_int min2_int max_two min_two max_three min_three max_four min_four   -- for this text's walks alone
set_option linter.unusedVariables false
set_option linter.unusedSimpArgs false
def spec_l01Own.f (l0 : List Int) : Option (List Int) := (some (([] : List Int) : List Int)).bind fun y101 => (if y101.length + l0.length < 17592186044416 then (some (y101 ++ l0)) else (none))
end Go.Proofs.Ytjkgjmaldbmgmaa.P
end
section
namespace Go.Proofs.Ytjkgjmaldbmgmaa.P
open Go.RowKit Go.Proofs.YtjkgjmaldbmgmaaW.PrintWords Go.Proofs.YtjkgjmaldbmgmaaW.PrintLast Go.Proofs.YtjkgjmaldbmgmaaW.PrintMore
attribute [local go_sem] max2_int min2_int max_two min_two max_three min_three max_four min_four   -- for this text's walks alone
set_option linter.unusedVariables false
set_option linter.unusedSimpArgs false
def spec_l07Exchanged.f (l0 : List Int) (a1 : Int) (a2 : Int) : Option (List Int) := (spec_l01Own.f l0).bind fun t101 => (if 0 ≤ a2 then (if a2 < (l0.length : Int) then (if 0 ≤ a1 then (if a1 < (t101.length : Int) then (if a1 < (l0.length : Int) then (if a2 < (t101.length : Int) then (some ((t101.set (a1 : Int).toNat (rd l0 a2)).set (a2 : Int).toNat (rd l0 a1))) else (none)) else (none)) else (none)) else (none)) else (none)) else (none))
end Go.Proofs.Ytjkgjmaldbmgmaa.P
end
section
namespace Go.Proofs.Ytjkgjmaldbmgmaa.P
open Go.RowKit Go.Proofs.YtjkgjmaldbmgmaaW.PrintWords Go.Proofs.YtjkgjmaldbmgmaaW.PrintLast Go.Proofs.YtjkgjmaldbmgmaaW.PrintMore
attribute [local go_sem] max2_int min2_int max_two min_two max_three min_three max_four min_four   -- for this text's walks alone
set_option linter.unusedVariables false
set_option linter.unusedSimpArgs false
mutual
def spec_l07Differences.l0 : Nat → List Int → List Int → Int → List (List Int) → Int → Option ((List (List Int)))
  | 0, _, _, _, _, _ => none
  | k + 1, x0, x1, x5, x6, x7 => if x7 < (x0.length : Int) then (if 0 ≤ x7 then (if x7 < (x6.length : Int) then ((spec_l01Own.f (rd_L1 x6 x7)).bind fun t108 => (spec_l07Differences.l1 k x0 x1 x5 x6 x7 t108 (t108.length : Int) 0)) else (none)) else (none)) else (some x6)
def spec_l07Differences.l1 : Nat → List Int → List Int → Int → List (List Int) → Int → List Int → Int → Int → Option ((List (List Int)))
  | 0, _, _, _, _, _, _, _, _ => none
  | k + 1, x0, x1, x5, x6, x7, x8, x28, x29 => if x29 < x28 then (if 0 ≤ x29 then (if x29 < (x8.length : Int) then (if x29 < (x1.length : Int) then (spec_l07Differences.l1 k x0 x1 x5 x6 x7 (x8.set (x29 : Int).toNat (wrap64 ((rd x8 x29) - (rd x1 x29)))) x28 (wrap64 (x29 + 1))) else (none)) else (none)) else (none)) else (if 0 ≤ x7 then (if x7 < (x0.length : Int) then (if 0 ≤ (rd x0 x7) then (if (rd x0 x7) < (x8.length : Int) then (if x6.length < 5864062014805 then (spec_l07Differences.l0 k x0 x1 x5 (x6 ++ [(x8.set ((rd x0 x7) : Int).toNat (wrap64 ((rd x8 (rd x0 x7)) + x5)))]) (wrap64 (x7 + 1))) else (none)) else (none)) else (none)) else (none)) else (none))
end
def spec_l07Differences.f (k : Nat) (l0 : List Int) (l1 : List Int) : Option ((List (List Int))) := if 0 ≤ (l1.length : Int) then (if ((l1.length : Int) : Int).toNat ≤ 35184372088832 then (spec_l07Differences.l0 k l0 l1 (l0.length : Int) (([(List.replicate ((l1.length : Int) : Int).toNat 0)] : List (List Int))) 0) else (none)) else (none)
theorem spec_l07Differences.mono_l : ∀ k, (∀ y0 y1 y2 y3 y4, LeO (spec_l07Differences.l0 k y0 y1 y2 y3 y4) (spec_l07Differences.l0 (k + 1) y0 y1 y2 y3 y4)) ∧ (∀ y0 y1 y2 y3 y4 y5 y6 y7, LeO (spec_l07Differences.l1 k y0 y1 y2 y3 y4 y5 y6 y7) (spec_l07Differences.l1 (k + 1) y0 y1 y2 y3 y4 y5 y6 y7))
  | 0 => ⟨fun _ _ _ _ _ r h => by simp [spec_l07Differences.l0] at h, fun _ _ _ _ _ _ _ _ r h => by simp [spec_l07Differences.l1] at h⟩
  | k + 1 => by
    obtain ⟨ih0, ih1⟩ := spec_l07Differences.mono_l k
    refine ⟨?_, ?_⟩
    · intro y0 y1 y2 y3 y4
      unfold spec_l07Differences.l0
      repeat' first
      | (with_reducible exact ih0 _ _ _ _ _)
      | (with_reducible exact ih1 _ _ _ _ _ _ _ _)
      | (with_reducible exact LeO.refl _)
      | (with_reducible exact LeO.none _)
      | (with_reducible refine LeO.ite ?_ ?_)
      | (with_reducible refine LeO.bind ?_ (fun _ => ?_))
      | exact ih0 _ _ _ _ _
      | exact ih1 _ _ _ _ _ _ _ _
      | exact LeO.none _
      | refine LeO.ite ?_ ?_
      | refine LeO.bind ?_ (fun _ => ?_)
    · intro y0 y1 y2 y3 y4 y5 y6 y7
      unfold spec_l07Differences.l1
      repeat' first
      | (with_reducible exact ih0 _ _ _ _ _)
      | (with_reducible exact ih1 _ _ _ _ _ _ _ _)
      | (with_reducible exact LeO.refl _)
      | (with_reducible exact LeO.none _)
      | (with_reducible refine LeO.ite ?_ ?_)
      | (with_reducible refine LeO.bind ?_ (fun _ => ?_))
      | exact ih0 _ _ _ _ _
      | exact ih1 _ _ _ _ _ _ _ _
      | exact LeO.none _
      | refine LeO.ite ?_ ?_
      | refine LeO.bind ?_ (fun _ => ?_)
theorem spec_l07Differences.mono : ∀ a0 a1 k, LeO (spec_l07Differences.f k a0 a1) (spec_l07Differences.f (k + 1) a0 a1) := by
  intro a0 a1 k
  obtain ⟨ih0, ih1⟩ := spec_l07Differences.mono_l k
  unfold spec_l07Differences.f
  repeat' first
      | (with_reducible exact ih0 _ _ _ _ _)
      | (with_reducible exact ih1 _ _ _ _ _ _ _ _)
      | (with_reducible exact LeO.refl _)
      | (with_reducible exact LeO.none _)
      | (with_reducible refine LeO.ite ?_ ?_)
      | (with_reducible refine LeO.bind ?_ (fun _ => ?_))
      | exact ih0 _ _ _ _ _
      | exact ih1 _ _ _ _ _ _ _ _
      | exact LeO.none _
      | refine LeO.ite ?_ ?_
      | refine LeO.bind ?_ (fun _ => ?_)
end Go.Proofs.Ytjkgjmaldbmgmaa.P
end
section
namespace Go.Proofs.Ytjkgjmaldbmgmaa.P
open Go.RowKit Go.Proofs.YtjkgjmaldbmgmaaW.PrintWords Go.Proofs.YtjkgjmaldbmgmaaW.PrintLast Go.Proofs.YtjkgjmaldbmgmaaW.PrintMore
attribute [local go_sem] max2_int min2_int max_two min_two max_three min_three max_four min_four   -- for this text's walks alone
set_option linter.unusedVariables false
set_option linter.unusedSimpArgs false
mutual
def spec_l07Squares.l0 : Nat → List (List Int) → Int → Int → Int → Option (Int)
  | 0, _, _, _, _ => none
  | k + 1, x5, x6, x13, x14 => if x14 < x13 then (if 0 ≤ x14 then (if x14 < (x5.length : Int) then (spec_l07Squares.l1 k x5 x6 x14 x13 x14 ((rd_L1 x5 x14).length : Int) 0) else (none)) else (none)) else (some x6)
def spec_l07Squares.l1 : Nat → List (List Int) → Int → Int → Int → Int → Int → Int → Option (Int)
  | 0, _, _, _, _, _, _, _ => none
  | k + 1, x5, x6, x7, x13, x14, x21, x22 => if x22 < x21 then (if 0 ≤ x7 then (if x7 < (x5.length : Int) then (if 0 ≤ x22 then (if x22 < ((rd_L1 x5 x7).length : Int) then (spec_l07Squares.l1 k x5 (wrap64 (x6 + (wrap64 ((rd (rd_L1 x5 x7) x22) * (rd (rd_L1 x5 x7) x22))))) x7 x13 x14 x21 (wrap64 (x22 + 1))) else (none)) else (none)) else (none)) else (none)) else (spec_l07Squares.l0 k x5 x6 x13 (wrap64 (x14 + 1)))
end
def spec_l07Squares.f (k : Nat) (l0 : List Int) (l1 : List Int) : Option (Int) := (spec_l07Differences.f k l0 l1).bind fun t101 => (spec_l07Squares.l0 k t101 0 (t101.length : Int) 0)
theorem spec_l07Squares.mono_l : ∀ k, (∀ y0 y1 y2 y3, LeO (spec_l07Squares.l0 k y0 y1 y2 y3) (spec_l07Squares.l0 (k + 1) y0 y1 y2 y3)) ∧ (∀ y0 y1 y2 y3 y4 y5 y6, LeO (spec_l07Squares.l1 k y0 y1 y2 y3 y4 y5 y6) (spec_l07Squares.l1 (k + 1) y0 y1 y2 y3 y4 y5 y6))
  | 0 => ⟨fun _ _ _ _ r h => by simp [spec_l07Squares.l0] at h, fun _ _ _ _ _ _ _ r h => by simp [spec_l07Squares.l1] at h⟩
  | k + 1 => by
    obtain ⟨ih0, ih1⟩ := spec_l07Squares.mono_l k
    refine ⟨?_, ?_⟩
    · intro y0 y1 y2 y3
      unfold spec_l07Squares.l0
      repeat' first
      | (with_reducible exact ih0 _ _ _ _)
      | (with_reducible exact ih1 _ _ _ _ _ _ _)
      | (with_reducible exact spec_l07Differences.mono _ _ _)
      | (with_reducible exact LeO.refl _)
      | (with_reducible exact LeO.none _)
      | (with_reducible refine LeO.ite ?_ ?_)
      | (with_reducible refine LeO.bind ?_ (fun _ => ?_))
      | exact ih0 _ _ _ _
      | exact ih1 _ _ _ _ _ _ _
      | exact spec_l07Differences.mono _ _ _
      | exact LeO.none _
      | refine LeO.ite ?_ ?_
      | refine LeO.bind ?_ (fun _ => ?_)
    · intro y0 y1 y2 y3 y4 y5 y6
      unfold spec_l07Squares.l1
      repeat' first
      | (with_reducible exact ih0 _ _ _ _)
      | (with_reducible exact ih1 _ _ _ _ _ _ _)
      | (with_reducible exact spec_l07Differences.mono _ _ _)
      | (with_reducible exact LeO.refl _)
      | (with_reducible exact LeO.none _)
      | (with_reducible refine LeO.ite ?_ ?_)
      | (with_reducible refine LeO.bind ?_ (fun _ => ?_))
      | exact ih0 _ _ _ _
      | exact ih1 _ _ _ _ _ _ _
      | exact spec_l07Differences.mono _ _ _
      | exact LeO.none _
      | refine LeO.ite ?_ ?_
      | refine LeO.bind ?_ (fun _ => ?_)
theorem spec_l07Squares.mono : ∀ a0 a1 k, LeO (spec_l07Squares.f k a0 a1) (spec_l07Squares.f (k + 1) a0 a1) := by
  intro a0 a1 k
  obtain ⟨ih0, ih1⟩ := spec_l07Squares.mono_l k
  unfold spec_l07Squares.f
  repeat' first
      | (with_reducible exact ih0 _ _ _ _)
      | (with_reducible exact ih1 _ _ _ _ _ _ _)
      | (with_reducible exact spec_l07Differences.mono _ _ _)
      | (with_reducible exact LeO.refl _)
      | (with_reducible exact LeO.none _)
      | (with_reducible refine LeO.ite ?_ ?_)
      | (with_reducible refine LeO.bind ?_ (fun _ => ?_))
      | exact ih0 _ _ _ _
      | exact ih1 _ _ _ _ _ _ _
      | exact spec_l07Differences.mono _ _ _
      | exact LeO.none _
      | refine LeO.ite ?_ ?_
      | refine LeO.bind ?_ (fun _ => ?_)
end Go.Proofs.Ytjkgjmaldbmgmaa.P
end
section
namespace Go.Proofs.Ytjkgjmaldbmgmaa.P
open Go.RowKit Go.Proofs.YtjkgjmaldbmgmaaW.PrintWords Go.Proofs.YtjkgjmaldbmgmaaW.PrintLast Go.Proofs.YtjkgjmaldbmgmaaW.PrintMore
attribute [local go_sem] max2_int min2_int max_two min_two max_three min_three max_four min_four   -- for this text's walks alone
set_option linter.unusedVariables false
set_option linter.unusedSimpArgs false
mutual
def spec_l07Best.l0 : Nat → List Int → List Int → Int → Int → Int → Int → Option (Int × Int × Bool)
  | 0, _, _, _, _, _, _ => none
  | k + 1, x0, x1, x7, x8, x9, x10 => if x10 < (x0.length : Int) then (spec_l07Best.l1 k x0 x1 x7 x8 x9 x10 (wrap64 (x10 + 1))) else (some (x8, x9, decide (x8 ≥ 0)))
def spec_l07Best.l1 : Nat → List Int → List Int → Int → Int → Int → Int → Int → Option (Int × Int × Bool)
  | 0, _, _, _, _, _, _, _ => none
  | k + 1, x0, x1, x7, x8, x9, x10, x11 => if x11 < (x0.length : Int) then (if 0 ≤ x10 then (if x10 < (x0.length : Int) then (if 0 ≤ x11 then (if (rd x0 x10) = (rd x0 x11) then (spec_l07Best.l1 k x0 x1 x7 x8 x9 x10 (wrap64 (x11 + 1))) else ((spec_l07Exchanged.f x0 x10 x11).bind fun t104 => ((spec_l07Squares.f k t104 x1).bind fun t107 => (if t107 < x7 then (spec_l07Best.l1 k x0 x1 t107 x10 x11 x10 (wrap64 (x11 + 1))) else (spec_l07Best.l1 k x0 x1 x7 x8 x9 x10 (wrap64 (x11 + 1))))))) else (none)) else (none)) else (none)) else (spec_l07Best.l0 k x0 x1 x7 x8 x9 (wrap64 (x10 + 1)))
end
def spec_l07Best.f (k : Nat) (l0 : List Int) (l1 : List Int) : Option (Int × Int × Bool) := (spec_l07Squares.f k l0 l1).bind fun t101 => (spec_l07Best.l0 k l0 l1 t101 (-1) (-1) 0)
theorem spec_l07Best.mono_l : ∀ k, (∀ y0 y1 y2 y3 y4 y5, LeO (spec_l07Best.l0 k y0 y1 y2 y3 y4 y5) (spec_l07Best.l0 (k + 1) y0 y1 y2 y3 y4 y5)) ∧ (∀ y0 y1 y2 y3 y4 y5 y6, LeO (spec_l07Best.l1 k y0 y1 y2 y3 y4 y5 y6) (spec_l07Best.l1 (k + 1) y0 y1 y2 y3 y4 y5 y6))
  | 0 => ⟨fun _ _ _ _ _ _ r h => by simp [spec_l07Best.l0] at h, fun _ _ _ _ _ _ _ r h => by simp [spec_l07Best.l1] at h⟩
  | k + 1 => by
    obtain ⟨ih0, ih1⟩ := spec_l07Best.mono_l k
    refine ⟨?_, ?_⟩
    · intro y0 y1 y2 y3 y4 y5
      unfold spec_l07Best.l0
      repeat' first
      | (with_reducible exact ih0 _ _ _ _ _ _)
      | (with_reducible exact ih1 _ _ _ _ _ _ _)
      | (with_reducible exact spec_l07Squares.mono _ _ _)
      | (with_reducible exact LeO.refl _)
      | (with_reducible exact LeO.none _)
      | (with_reducible refine LeO.ite ?_ ?_)
      | (with_reducible refine LeO.bind ?_ (fun _ => ?_))
      | exact ih0 _ _ _ _ _ _
      | exact ih1 _ _ _ _ _ _ _
      | exact spec_l07Squares.mono _ _ _
      | exact LeO.none _
      | refine LeO.ite ?_ ?_
      | refine LeO.bind ?_ (fun _ => ?_)
    · intro y0 y1 y2 y3 y4 y5 y6
      unfold spec_l07Best.l1
      repeat' first
      | (with_reducible exact ih0 _ _ _ _ _ _)
      | (with_reducible exact ih1 _ _ _ _ _ _ _)
      | (with_reducible exact spec_l07Squares.mono _ _ _)
      | (with_reducible exact LeO.refl _)
      | (with_reducible exact LeO.none _)
      | (with_reducible refine LeO.ite ?_ ?_)
      | (with_reducible refine LeO.bind ?_ (fun _ => ?_))
      | exact ih0 _ _ _ _ _ _
      | exact ih1 _ _ _ _ _ _ _
      | exact spec_l07Squares.mono _ _ _
      | exact LeO.none _
      | refine LeO.ite ?_ ?_
      | refine LeO.bind ?_ (fun _ => ?_)
theorem spec_l07Best.mono : ∀ a0 a1 k, LeO (spec_l07Best.f k a0 a1) (spec_l07Best.f (k + 1) a0 a1) := by
  intro a0 a1 k
  obtain ⟨ih0, ih1⟩ := spec_l07Best.mono_l k
  unfold spec_l07Best.f
  repeat' first
      | (with_reducible exact ih0 _ _ _ _ _ _)
      | (with_reducible exact ih1 _ _ _ _ _ _ _)
      | (with_reducible exact spec_l07Squares.mono _ _ _)
      | (with_reducible exact LeO.refl _)
      | (with_reducible exact LeO.none _)
      | (with_reducible refine LeO.ite ?_ ?_)
      | (with_reducible refine LeO.bind ?_ (fun _ => ?_))
      | exact ih0 _ _ _ _ _ _
      | exact ih1 _ _ _ _ _ _ _
      | exact spec_l07Squares.mono _ _ _
      | exact LeO.none _
      | refine LeO.ite ?_ ?_
      | refine LeO.bind ?_ (fun _ => ?_)
end Go.Proofs.Ytjkgjmaldbmgmaa.P
end
section
namespace Go.Proofs.Ytjkgjmaldbmgmaa.Pure
open Go.RowKit Go.Proofs.Ytjkgjmaldbmgmaa.P Go.Proofs.YtjkgjmaldbmgmaaW.PrintWords Go.Proofs.YtjkgjmaldbmgmaaW.PrintLast Go.Proofs.YtjkgjmaldbmgmaaW.PrintMore
set_option linter.unusedVariables false
set_option linter.unusedSimpArgs false
theorem ev_pos {α : Type} {c : Prop} [Decidable c] {A B : Nat → Option α} {r : α} (h : c) (e : Ev A r) : Ev (fun n => if c then A n else B n) r := Ev.congr (fun n => if_pos h) e
theorem ev_neg {α : Type} {c : Prop} [Decidable c] {A B : Nat → Option α} {r : α} (h : ¬ c) (e : Ev B r) : Ev (fun n => if c then A n else B n) r := Ev.congr (fun n => if_neg h) e
theorem ev_now {α : Type} (r : α) : Ev (fun _ => some r) r := Ev.now r
theorem ev_is {α : Type} {g : Option α} {r : α} (h : g = some r) : Ev (fun _ => g) r := by subst h; exact Ev.now r
theorem ev_bind {α β : Type} {g : Nat → Option α} {f : Nat → α → Option β} {a : α} {r : β} (h : Ev g a) (k : Ev (fun n => f n a) r) : Ev (fun n => (g n).bind (f n)) r := Ev.bind h k
theorem ev_fix {α β : Type} {g : Option α} {f : Nat → α → Option β} {a : α} {r : β} (h : g = some a) (k : Ev (fun n => f n a) r) : Ev (fun n => g.bind (f n)) r := by subst h; exact k
theorem ev_rounds {α : Type} {g : Nat → Option α} {r : α} (h : Ev g r) : ∃ k, g k = some r := h.rounds
theorem ev_eq {α : Type} {g : Nat → Option α} {r r' : α} (h : Ev g r) (e : r = r') : Ev g r' := e ▸ h
theorem wrap_id {x : Int} (h1 : -9223372036854775808 ≤ x) (h2 : x ≤ 9223372036854775807) : wrap64 x = x := by unfold wrap64; omega
theorem wrap_succ {n : Nat} (h : n + 1 ≤ 9223372036854775807) : wrap64 ((n : Int) + 1) = ((n + 1 : Nat) : Int) := by rw [wrap_id (by omega) (by omega)]; omega
theorem rd_nat {l : List Int} {n : Nat} (h : n < l.length) : rd l (n : Int) = l[n] := by simp [rd, h]
theorem wrap_nat {n : Nat} (h : n ≤ 9223372036854775807) : wrap64 (n : Int) = n := wrap_id (by omega) (by omega)
end Go.Proofs.Ytjkgjmaldbmgmaa.Pure
end
section
namespace Go.Proofs.Ytjkgjmaldbmgmaa.Pure
open Go.RowKit Go.Proofs.Ytjkgjmaldbmgmaa.P Go.Proofs.YtjkgjmaldbmgmaaW.PrintWords Go.Proofs.YtjkgjmaldbmgmaaW.PrintLast Go.Proofs.YtjkgjmaldbmgmaaW.PrintMore
set_option linter.unusedVariables false
set_option linter.unusedSimpArgs false
/-- turns with two slots exchanged -/
def exch (l : List Int) (n m : Int) : List Int := (l.set n.toNat (rd l m)).set m.toNat (rd l n)
end Go.Proofs.Ytjkgjmaldbmgmaa.Pure
end
section
namespace Go.Proofs.Ytjkgjmaldbmgmaa.P
open Go.RowKit Go.Proofs.YtjkgjmaldbmgmaaW.PrintWords Go.Proofs.YtjkgjmaldbmgmaaW.PrintLast Go.Proofs.YtjkgjmaldbmgmaaW.PrintMore
attribute [local go_sem] max2_int min2_int max_two min_two max_three min_three max_four min_four   -- for this text's walks alone
set_option linter.unusedVariables false
set_option linter.unusedSimpArgs false
theorem within_f (n lo hi : Int) : impl_within.f n lo hi = some (decide (lo ≤ n ∧ n ≤ hi)) := by
  unfold impl_within.f
  by_cases h : lo ≤ n
  · rw [if_pos h]; simp [h]
  · rw [if_neg h]; simp [h]
end Go.Proofs.Ytjkgjmaldbmgmaa.P
end
section
namespace Go.Proofs.Ytjkgjmaldbmgmaa.P
open Go.RowKit Go.Proofs.YtjkgjmaldbmgmaaW.PrintWords Go.Proofs.YtjkgjmaldbmgmaaW.PrintLast Go.Proofs.YtjkgjmaldbmgmaaW.PrintMore
attribute [local go_sem] max2_int min2_int max_two min_two max_three min_three max_four min_four   -- for this text's walks alone
set_option linter.unusedVariables false
set_option linter.unusedSimpArgs false
def impl_areTurns.f (l0 : List Int) (a1 : Int) : Option Bool := some (decide (1 ≤ (l0.length : Int) ∧ (l0.length : Int) ≤ 120) && l0.all fun i => decide (-1 ≤ i ∧ i ≤ wrap64 (a1 - 1)))
end Go.Proofs.Ytjkgjmaldbmgmaa.P
end
section
namespace Go.Proofs.Ytjkgjmaldbmgmaa.P
open Go.RowKit Go.Proofs.YtjkgjmaldbmgmaaW.PrintWords Go.Proofs.YtjkgjmaldbmgmaaW.PrintLast Go.Proofs.YtjkgjmaldbmgmaaW.PrintMore
attribute [local go_sem] max2_int min2_int max_two min_two max_three min_three max_four min_four   -- for this text's walks alone
set_option linter.unusedVariables false
set_option linter.unusedSimpArgs false
def slices_Index_Sint64_int64.l0 : Nat → List Int → Int → Int → Int → Option (Int)
  | 0, _, _, _, _ => none
  | k + 1, x0, x1, x7, x8 => if x8 < x7 then (if 0 ≤ x8 then (if x8 < (x0.length : Int) then (if x1 = (rd x0 x8) then (some x8) else (slices_Index_Sint64_int64.l0 k x0 x1 x7 (wrap64 (x8 + 1)))) else (none)) else (none)) else (some (-1))
def slices_Index_Sint64_int64.f (k : Nat) (l0 : List Int) (a1 : Int) : Option (Int) := slices_Index_Sint64_int64.l0 k l0 a1 (l0.length : Int) 0
theorem slices_Index_Sint64_int64.mono_l : ∀ k, (∀ y0 y1 y2 y3, LeO (slices_Index_Sint64_int64.l0 k y0 y1 y2 y3) (slices_Index_Sint64_int64.l0 (k + 1) y0 y1 y2 y3))
  | 0 => fun _ _ _ _ r h => by simp [slices_Index_Sint64_int64.l0] at h
  | k + 1 => by
    have ih0 := slices_Index_Sint64_int64.mono_l k
    · intro y0 y1 y2 y3
      unfold slices_Index_Sint64_int64.l0
      repeat' first
      | (with_reducible exact ih0 _ _ _ _)
      | (with_reducible exact LeO.refl _)
      | (with_reducible exact LeO.none _)
      | (with_reducible refine LeO.ite ?_ ?_)
      | (with_reducible refine LeO.bind ?_ (fun _ => ?_))
      | exact ih0 _ _ _ _
      | exact LeO.none _
      | refine LeO.ite ?_ ?_
      | refine LeO.bind ?_ (fun _ => ?_)
theorem slices_Index_Sint64_int64.mono : ∀ a0 a1 k, LeO (slices_Index_Sint64_int64.f k a0 a1) (slices_Index_Sint64_int64.f (k + 1) a0 a1) := by
  intro a0 a1 k
  have ih0 := slices_Index_Sint64_int64.mono_l k
  unfold slices_Index_Sint64_int64.f
  repeat' first
      | (with_reducible exact ih0 _ _ _ _)
      | (with_reducible exact LeO.refl _)
      | (with_reducible exact LeO.none _)
      | (with_reducible refine LeO.ite ?_ ?_)
      | (with_reducible refine LeO.bind ?_ (fun _ => ?_))
      | exact ih0 _ _ _ _
      | exact LeO.none _
      | refine LeO.ite ?_ ?_
      | refine LeO.bind ?_ (fun _ => ?_)
end Go.Proofs.Ytjkgjmaldbmgmaa.P
end
section
namespace Go.Proofs.Ytjkgjmaldbmgmaa.P
open Go.RowKit Go.Proofs.YtjkgjmaldbmgmaaW.PrintWords Go.Proofs.YtjkgjmaldbmgmaaW.PrintLast Go.Proofs.YtjkgjmaldbmgmaaW.PrintMore
attribute [local go_sem] max2_int min2_int max_two min_two max_three min_three max_four min_four   -- for this text's walks alone
set_option linter.unusedVariables false
set_option linter.unusedSimpArgs false
def slices_Contains_Sint64_int64.f (k : Nat) (l0 : List Int) (a1 : Int) : Option (Bool) := (slices_Index_Sint64_int64.f k l0 a1).bind fun t101 => (some (decide (t101 ≥ 0)))
theorem slices_Contains_Sint64_int64.mono : ∀ a0 a1 k, LeO (slices_Contains_Sint64_int64.f k a0 a1) (slices_Contains_Sint64_int64.f (k + 1) a0 a1) := by
  intro a0 a1 k
  unfold slices_Contains_Sint64_int64.f
  repeat' first
      | (with_reducible exact slices_Index_Sint64_int64.mono _ _ _)
      | (with_reducible exact LeO.refl _)
      | (with_reducible exact LeO.none _)
      | (with_reducible refine LeO.ite ?_ ?_)
      | (with_reducible refine LeO.bind ?_ (fun _ => ?_))
      | exact slices_Index_Sint64_int64.mono _ _ _
      | exact LeO.none _
      | refine LeO.ite ?_ ?_
      | refine LeO.bind ?_ (fun _ => ?_)
end Go.Proofs.Ytjkgjmaldbmgmaa.P
end
section
namespace Go.Proofs.Ytjkgjmaldbmgmaa.P
open Go.RowKit Go.Proofs.YtjkgjmaldbmgmaaW.PrintWords Go.Proofs.YtjkgjmaldbmgmaaW.PrintLast Go.Proofs.YtjkgjmaldbmgmaaW.PrintMore
attribute [local go_sem] max2_int min2_int max_two min_two max_three min_three max_four min_four   -- for this text's walks alone
set_option linter.unusedVariables false
set_option linter.unusedSimpArgs false
def impl_levelCode.f (k : Nat) (l0 : List Int) : Option (Int) := (impl_areTurns.f l0 8).bind fun t101 => (if t101 = true then ((slices_Contains_Sint64_int64.f k l0 (-1)).bind fun t102 => (if t102 = true then (some 5) else ((impl_sharesOf.f k l0).bind fun t103 => ((slices_Contains_Sint64_int64.f k t103 0).bind fun t106 => (if t106 = true then (some 5) else (if (l0.length : Int) > 60 then (some 5) else (some 0))))))) else (some 2))
theorem impl_levelCode.mono : ∀ a0 k, LeO (impl_levelCode.f k a0) (impl_levelCode.f (k + 1) a0) := by
  intro a0 k
  unfold impl_levelCode.f
  repeat' first
      | (with_reducible exact impl_sharesOf.mono _ _)
      | (with_reducible exact slices_Contains_Sint64_int64.mono _ _ _)
      | (with_reducible exact LeO.refl _)
      | (with_reducible exact LeO.none _)
      | (with_reducible refine LeO.ite ?_ ?_)
      | (with_reducible refine LeO.bind ?_ (fun _ => ?_))
      | exact impl_sharesOf.mono _ _
      | exact slices_Contains_Sint64_int64.mono _ _ _
      | exact LeO.none _
      | refine LeO.ite ?_ ?_
      | refine LeO.bind ?_ (fun _ => ?_)
end Go.Proofs.Ytjkgjmaldbmgmaa.P
end
section
namespace Go.Proofs.Ytjkgjmaldbmgmaa.Pure
set_option linter.unusedVariables false
set_option linter.unusedSimpArgs false
/-- how often x stands in a list -/
def cnt (x : Int) : List Int → Int
  | [] => 0
  | y :: l => (if y = x then 1 else 0) + cnt x l
end Go.Proofs.Ytjkgjmaldbmgmaa.Pure
end
section
namespace Go.Proofs.Ytjkgjmaldbmgmaa.Pure
open Go.RowKit Go.Proofs.Ytjkgjmaldbmgmaa.P Go.Proofs.YtjkgjmaldbmgmaaW.PrintWords Go.Proofs.YtjkgjmaldbmgmaaW.PrintLast Go.Proofs.YtjkgjmaldbmgmaaW.PrintMore
set_option linter.unusedVariables false
set_option linter.unusedSimpArgs false
/-- the greatest of a list, and 0 -/
def great (l : List Int) : Int := l.foldl mx 0
end Go.Proofs.Ytjkgjmaldbmgmaa.Pure
end
section
namespace Go.Proofs.Ytjkgjmaldbmgmaa.P
open Go.RowKit Go.Proofs.YtjkgjmaldbmgmaaW.PrintWords Go.Proofs.YtjkgjmaldbmgmaaW.PrintLast Go.Proofs.YtjkgjmaldbmgmaaW.PrintMore
attribute [local go_sem] max2_int min2_int max_two min_two max_three min_three max_four min_four   -- for this text's walks alone
set_option linter.unusedVariables false
set_option linter.unusedSimpArgs false
def spec_l01Turns.l0 : Nat → List Int → Int → Int → Option (Bool)
  | 0, _, _, _ => none
  | k + 1, x0, x1, x5 => if x5 < (x0.length : Int) then (if 0 ≤ x5 then ((spec_l01In.f (rd x0 x5) (-1) (wrap64 (x1 - 1))).bind fun t102 => (if t102 = true then (spec_l01Turns.l0 k x0 x1 (wrap64 (x5 + 1))) else (some false))) else (none)) else ((spec_l01In.f (x0.length : Int) 1 120).bind fun t103 => (some t103))
def spec_l01Turns.f (k : Nat) (l0 : List Int) (a1 : Int) : Option (Bool) := spec_l01Turns.l0 k l0 a1 0
theorem spec_l01Turns.mono_l : ∀ k, (∀ y0 y1 y2, LeO (spec_l01Turns.l0 k y0 y1 y2) (spec_l01Turns.l0 (k + 1) y0 y1 y2))
  | 0 => fun _ _ _ r h => by simp [spec_l01Turns.l0] at h
  | k + 1 => by
    have ih0 := spec_l01Turns.mono_l k
    · intro y0 y1 y2
      unfold spec_l01Turns.l0
      repeat' first
      | (with_reducible exact ih0 _ _ _)
      | (with_reducible exact LeO.refl _)
      | (with_reducible exact LeO.none _)
      | (with_reducible refine LeO.ite ?_ ?_)
      | (with_reducible refine LeO.bind ?_ (fun _ => ?_))
      | exact ih0 _ _ _
      | exact LeO.none _
      | refine LeO.ite ?_ ?_
      | refine LeO.bind ?_ (fun _ => ?_)
theorem spec_l01Turns.mono : ∀ a0 a1 k, LeO (spec_l01Turns.f k a0 a1) (spec_l01Turns.f (k + 1) a0 a1) := by
  intro a0 a1 k
  have ih0 := spec_l01Turns.mono_l k
  unfold spec_l01Turns.f
  repeat' first
      | (with_reducible exact ih0 _ _ _)
      | (with_reducible exact LeO.refl _)
      | (with_reducible exact LeO.none _)
      | (with_reducible refine LeO.ite ?_ ?_)
      | (with_reducible refine LeO.bind ?_ (fun _ => ?_))
      | exact ih0 _ _ _
      | exact LeO.none _
      | refine LeO.ite ?_ ?_
      | refine LeO.bind ?_ (fun _ => ?_)
end Go.Proofs.Ytjkgjmaldbmgmaa.P
end
section
namespace Go.Proofs.Ytjkgjmaldbmgmaa.Pure
open Go.RowKit Go.Proofs.Ytjkgjmaldbmgmaa.P Go.Proofs.YtjkgjmaldbmgmaaW.PrintWords Go.Proofs.YtjkgjmaldbmgmaaW.PrintLast Go.Proofs.YtjkgjmaldbmgmaaW.PrintMore
set_option linter.unusedVariables false
set_option linter.unusedSimpArgs false
theorem l01In_f (n lo hi : Int) : spec_l01In.f n lo hi = some (decide (lo ≤ n ∧ n ≤ hi)) := by
  unfold spec_l01In.f
  by_cases h : n ≥ lo
  · rw [if_pos h]; simp [show lo ≤ n from h]
  · rw [if_neg h]; simp [show ¬ lo ≤ n from h]
end Go.Proofs.Ytjkgjmaldbmgmaa.Pure
end
section
namespace Go.Proofs.Ytjkgjmaldbmgmaa.Pure
open Go.RowKit Go.Proofs.Ytjkgjmaldbmgmaa.P Go.Proofs.YtjkgjmaldbmgmaaW.PrintWords Go.Proofs.YtjkgjmaldbmgmaaW.PrintLast Go.Proofs.YtjkgjmaldbmgmaaW.PrintMore
set_option linter.unusedVariables false
set_option linter.unusedSimpArgs false
structure SameT (l l' : List Int) : Prop where
  len : l'.length = l.length
  cnt : ∀ x, cnt x l' = cnt x l
theorem SameT.refl (l : List Int) : SameT l l := ⟨rfl, fun _ => rfl⟩
theorem SameT.trans {l l' l'' : List Int} (h : SameT l l') (h' : SameT l' l'') : SameT l l'' := ⟨h'.len.trans h.len, fun x => (h'.cnt x).trans (h.cnt x)⟩
end Go.Proofs.Ytjkgjmaldbmgmaa.Pure
end
section
namespace Go.Proofs.Ytjkgjmaldbmgmaa.Pure
open Go.RowKit Go.Proofs.Ytjkgjmaldbmgmaa.P Go.Proofs.YtjkgjmaldbmgmaaW.PrintWords Go.Proofs.YtjkgjmaldbmgmaaW.PrintLast Go.Proofs.YtjkgjmaldbmgmaaW.PrintMore
set_option linter.unusedVariables false
set_option linter.unusedSimpArgs false
def dif (l : List Int) (n i : Nat) : Int := (l.length : Int) * cnt (i : Int) (l.take n) - (n : Int) * cnt (i : Int) l
end Go.Proofs.Ytjkgjmaldbmgmaa.Pure
end
section
namespace Go.Proofs.Ytjkgjmaldbmgmaa.Pure
open Go.RowKit Go.Proofs.Ytjkgjmaldbmgmaa.P Go.Proofs.YtjkgjmaldbmgmaaW.PrintWords Go.Proofs.YtjkgjmaldbmgmaaW.PrintLast Go.Proofs.YtjkgjmaldbmgmaaW.PrintMore
set_option linter.unusedVariables false
set_option linter.unusedSimpArgs false
def foldI (st : Int → Int → Int) (l : List Int) (n : Nat) : Nat → Nat → Int → Int
  | 0, _, a => a
  | d + 1, i, a => foldI st l n d (i + 1) (st a (dif l n i))
def foldN (st : Int → Int → Int) (l : List Int) (m : Nat) : Nat → Nat → Int → Int
  | 0, _, a => a
  | d + 1, n, a => foldN st l m d (n + 1) (foldI st l n m 0 a)
def foldD (st : Int → Int → Int) (l : List Int) : Int := foldN st l (great l + 1).toNat (l.length + 1) 0 0
end Go.Proofs.Ytjkgjmaldbmgmaa.Pure
end
section
namespace Go.Proofs.Ytjkgjmaldbmgmaa.Pure
open Go.RowKit Go.Proofs.Ytjkgjmaldbmgmaa.P Go.Proofs.YtjkgjmaldbmgmaaW.PrintWords Go.Proofs.YtjkgjmaldbmgmaaW.PrintLast Go.Proofs.YtjkgjmaldbmgmaaW.PrintMore
set_option linter.unusedVariables false
set_option linter.unusedSimpArgs false
def stepB (l : List Int) (n m : Nat) (s : Int × Option (Nat × Nat)) : Int × Option (Nat × Nat) := if foldD sqD (exch l n m) < s.1 then (foldD sqD (exch l n m), some (n, m)) else s
def bestM (l : List Int) (n : Nat) : Nat → Nat → Int × Option (Nat × Nat) → Int × Option (Nat × Nat)
  | 0, _, s => s
  | d + 1, m, s => bestM l n d (m + 1) (stepB l n m s)
def bestN (l : List Int) : Nat → Nat → Int × Option (Nat × Nat) → Int × Option (Nat × Nat)
  | 0, _, s => s
  | d + 1, n, s => bestN l d (n + 1) (bestM l n (l.length - (n + 1)) (n + 1) s)
def best (l : List Int) : Int × Option (Nat × Nat) := bestN l l.length 0 (foldD sqD l, none)
end Go.Proofs.Ytjkgjmaldbmgmaa.Pure
end
section
namespace Go.Proofs.Ytjkgjmaldbmgmaa.Pure
open Go.RowKit Go.Proofs.Ytjkgjmaldbmgmaa.P Go.Proofs.YtjkgjmaldbmgmaaW.PrintWords Go.Proofs.YtjkgjmaldbmgmaaW.PrintLast Go.Proofs.YtjkgjmaldbmgmaaW.PrintMore
set_option linter.unusedVariables false
set_option linter.unusedSimpArgs false
def jobOk (L P D : List Int) (i : Nat) : Bool := decide (1 ≤ rd P i ∧ rd P i ≤ 60) && (decide (1 ≤ rd L i ∧ rd L i ≤ 20) && decide (1 ≤ rd D i ∧ rd D i ≤ rd P i))
def isJobs (L P D : List Int) : Bool := decide (1 ≤ (L.length : Int) ∧ (L.length : Int) ≤ 8) && (decide (P.length = L.length ∧ D.length = L.length) && (List.range' 0 L.length).all (jobOk L P D))
theorem isJobs_len {L P D : List Int} (h : isJobs L P D = true) : 1 ≤ L.length ∧ L.length ≤ 8 ∧ P.length = L.length ∧ D.length = L.length := by
  simp only [isJobs, Bool.and_eq_true, decide_eq_true_iff] at h
  omega
theorem isJobs_at {L P D : List Int} (h : isJobs L P D = true) {i : Nat} (hi : i < L.length) : (1 ≤ rd P i ∧ rd P i ≤ 60) ∧ (1 ≤ rd L i ∧ rd L i ≤ 20) ∧ (1 ≤ rd D i ∧ rd D i ≤ rd P i) := by
  simp only [isJobs, Bool.and_eq_true, List.all_eq_true] at h
  have h1 := h.2.2 i (by simp; omega)
  simp only [jobOk, Bool.and_eq_true, decide_eq_true_iff] at h1
  exact h1
theorem l04Is_l0 (L P D : List Int) (hl : L.length ≤ 8) (hP : P.length = L.length) (hD : D.length = L.length) : ∀ d n : Nat, n + d = L.length →
    Ev (fun k => spec_l04Is.l0 k (L.length : Int) (n : Int) L P D) ((List.range' n d).all (jobOk L P D)) := by
  intro d
  induction d with
  | zero =>
    intro n hn
    refine Ev.step (fun k => by rw [spec_l04Is.l0]) ?_
    exact ev_neg (by omega) (ev_now true)
  | succ d ih =>
    intro n hn
    refine Ev.step (fun k => by rw [spec_l04Is.l0]) ?_
    refine ev_pos (by omega) (ev_pos (by omega) (ev_pos (by omega) (ev_fix (l01In_f _ _ _) ?_)))
    rw [List.range'_succ, List.all_cons, jobOk]
    cases h1 : decide (1 ≤ rd L n ∧ rd L n ≤ 20) with
    | false => exact ev_neg (by simp) (ev_is (by simp))
    | true =>
      refine ev_pos rfl (ev_pos (by omega) (ev_fix (l01In_f _ _ _) ?_))
      cases h2 : decide (1 ≤ rd P n ∧ rd P n ≤ 60) with
      | false => exact ev_neg (by simp) (ev_is (by simp))
      | true =>
        refine ev_pos rfl (ev_pos (by omega) (ev_fix (l01In_f _ _ _) ?_))
        cases h3 : decide (1 ≤ rd D n ∧ rd D n ≤ rd P n) with
        | false => exact ev_neg (by simp) (ev_is (by simp))
        | true =>
          refine ev_pos rfl ?_
          rw [wrap_succ (by omega)]
          simpa using ih (n + 1) (by omega)
theorem l04Is_ev (L P D : List Int) : Ev (fun k => spec_l04Is.f k L P D) (isJobs L P D) := by
  unfold spec_l04Is.f isJobs
  have hno : Ev (fun k => spec_l04Is.j0 k (L.length : Int) true L P D) false := by
    refine Ev.step (fun k => by rw [spec_l04Is.j0]) ?_
    exact ev_pos rfl (ev_now _)
  by_cases h1 : (L.length : Int) < 1
  · refine ev_pos h1 ?_
    rw [decide_eq_false (by omega), Bool.false_and]
    exact hno
  · refine ev_neg h1 ?_
    by_cases h8 : (L.length : Int) > 8
    · refine ev_pos h8 ?_
      rw [decide_eq_false (by omega), Bool.false_and]
      exact hno
    · refine ev_neg h8 ?_
      rw [decide_eq_true (show 1 ≤ (L.length : Int) ∧ (L.length : Int) ≤ 8 by omega), Bool.true_and]
      by_cases hP : (P.length : Int) = (L.length : Int)
      · refine ev_pos hP ?_
        by_cases hD : (D.length : Int) = (L.length : Int)
        · rw [hD, bne_self_eq_false, decide_eq_true (show P.length = L.length ∧ D.length = L.length by omega), Bool.true_and]
          refine Ev.step (fun k => by rw [spec_l04Is.j0]) ?_
          exact ev_neg (by simp) (l04Is_l0 L P D (by omega) (by omega) (by omega) L.length 0 (by omega))
        · rw [bne_iff_ne.2 hD, decide_eq_false (show ¬ (P.length = L.length ∧ D.length = L.length) by omega), Bool.false_and]
          exact hno
      · refine ev_neg hP ?_
        rw [decide_eq_false (show ¬ (P.length = L.length ∧ D.length = L.length) by omega), Bool.false_and]
        exact hno
theorem AreJobs_l0 (L P D : List Int) (hl : L.length ≤ 8) (hP : P.length = L.length) (hD : D.length = L.length) : ∀ d n : Nat, n + d = L.length →
    Ev (fun k => impl_AreJobs.l0 k P (P.length : Int) (n : Int) L P D) ((List.range' n d).all (jobOk L P D)) := by
  intro d
  induction d with
  | zero =>
    intro n hn
    refine Ev.step (fun k => by rw [impl_AreJobs.l0]) ?_
    exact ev_neg (by omega) (ev_now true)
  | succ d ih =>
    intro n hn
    refine Ev.step (fun k => by rw [impl_AreJobs.l0]) ?_
    refine ev_pos (by omega) (ev_pos (by omega) (ev_pos (by omega) (ev_fix (within_f _ _ _) ?_)))
    rw [List.range'_succ, List.all_cons, jobOk]
    cases h2 : decide (1 ≤ rd P n ∧ rd P n ≤ 60) with
    | false => exact ev_neg (by simp) (ev_is (by simp))
    | true =>
      refine ev_pos rfl (ev_pos (by omega) (ev_fix (within_f _ _ _) ?_))
      cases h1 : decide (1 ≤ rd L n ∧ rd L n ≤ 20) with
      | false => exact ev_neg (by simp) (ev_is (by simp))
      | true =>
        refine ev_pos rfl (ev_pos (by omega) (ev_fix (within_f _ _ _) ?_))
        cases h3 : decide (1 ≤ rd D n ∧ rd D n ≤ rd P n) with
        | false => exact ev_neg (by simp) (ev_is (by simp))
        | true =>
          refine ev_pos rfl ?_
          rw [wrap_succ (by omega)]
          simpa using ih (n + 1) (by omega)
theorem AreJobs_ev (L P D : List Int) : Ev (fun k => impl_AreJobs.f k L P D) (isJobs L P D) := by
  unfold impl_AreJobs.f isJobs
  have hno : Ev (fun k => impl_AreJobs.j0 k true L P D) false := by
    refine Ev.step (fun k => by rw [impl_AreJobs.j0]) ?_
    exact ev_pos rfl (ev_now _)
  refine ev_fix (show impl_Jobs_many.f L P D = some (L.length : Int) from rfl) (ev_fix (within_f _ _ _) ?_)
  cases h1 : decide (1 ≤ (L.length : Int) ∧ (L.length : Int) ≤ 8) with
  | false => exact ev_neg (by simp) (by rw [Bool.false_and]; exact hno)
  | true =>
    have h2 := of_decide_eq_true h1
    refine ev_pos rfl ?_
    rw [Bool.true_and]
    by_cases hP : (P.length : Int) = (L.length : Int)
    · refine ev_pos hP ?_
      by_cases hD : (D.length : Int) = (L.length : Int)
      · rw [hD, bne_self_eq_false, decide_eq_true (show P.length = L.length ∧ D.length = L.length by omega), Bool.true_and]
        refine Ev.step (fun k => by rw [impl_AreJobs.j0]) ?_
        refine ev_neg (by simp) ?_
        exact AreJobs_l0 L P D (by omega) (by omega) (by omega) L.length 0 (by omega)
      · rw [bne_iff_ne.2 hD, decide_eq_false (show ¬ (P.length = L.length ∧ D.length = L.length) by omega), Bool.false_and]
        exact hno
    · refine ev_neg hP ?_
      rw [decide_eq_false (show ¬ (P.length = L.length ∧ D.length = L.length) by omega), Bool.false_and]
      exact hno
end Go.Proofs.Ytjkgjmaldbmgmaa.Pure
end
section
namespace Go.Proofs.Ytjkgjmaldbmgmaa.Pure
open Go.RowKit Go.Proofs.Ytjkgjmaldbmgmaa.P Go.Proofs.YtjkgjmaldbmgmaaW.PrintWords Go.Proofs.YtjkgjmaldbmgmaaW.PrintLast Go.Proofs.YtjkgjmaldbmgmaaW.PrintMore
set_option linter.unusedVariables false
set_option linter.unusedSimpArgs false
theorem tdiv_nat (m n : Nat) : Int.tdiv (m : Int) (n : Int) = ((m / n : Nat) : Int) := rfl
theorem tmod_nat' (m n : Nat) : Int.tmod (m : Int) (n : Int) = ((m % n : Nat) : Int) := rfl
theorem gcd_step (a b : Nat) (h : b ≠ 0) : Nat.gcd a b = Nat.gcd b (a % b) := by
  rw [Nat.gcd_comm a b, Nat.gcd_rec b a, Nat.gcd_comm]
theorem divisor_l0 : ∀ (b a : Nat), Ev (fun k => impl_divisor.l0 k (a : Int) (b : Int)) ((Nat.gcd a b : Nat) : Int) := by
  intro b
  induction b using Nat.strongRecOn with
  | _ b ih =>
    intro a
    refine Ev.step (fun k => by rw [impl_divisor.l0]) ?_
    by_cases h : b = 0
    · subst h
      refine ev_pos rfl ?_
      rw [Nat.gcd_zero_right]
      exact ev_now _
    · refine ev_neg (by omega) ?_
      rw [tmod_nat', gcd_step a b h]
      exact ih (a % b) (Nat.mod_lt _ (by omega)) b
theorem divisor_ev (a b : Nat) : Ev (fun k => impl_divisor.f k (a : Int) (b : Int)) ((Nat.gcd a b : Nat) : Int) := by
  unfold impl_divisor.f
  exact divisor_l0 b a
theorem l01Gcd_l0 : ∀ (b a : Nat), Ev (fun k => spec_l01Gcd.l0 k (a : Int) (b : Int)) ((Nat.gcd a b : Nat) : Int) := by
  intro b
  induction b using Nat.strongRecOn with
  | _ b ih =>
    intro a
    refine Ev.step (fun k => by rw [spec_l01Gcd.l0]) ?_
    by_cases h : b = 0
    · subst h
      refine ev_pos rfl ?_
      rw [Nat.gcd_zero_right]
      exact ev_now _
    · refine ev_neg (by omega) ?_
      rw [tmod_nat', gcd_step a b h]
      exact ih (a % b) (Nat.mod_lt _ (by omega)) b
theorem l01Gcd_ev (a b : Nat) : Ev (fun k => spec_l01Gcd.f k (a : Int) (b : Int)) ((Nat.gcd a b : Nat) : Int) := by
  unfold spec_l01Gcd.f
  exact l01Gcd_l0 b a
theorem lcm_div (a b : Nat) : a / Nat.gcd a b * b = Nat.lcm a b := by
  rw [Nat.lcm, Nat.mul_comm a b, Nat.mul_div_assoc _ (Nat.gcd_dvd_left a b), Nat.mul_comm]
theorem lcm_le (a b : Nat) : Nat.lcm a b ≤ a * b := by
  rw [← lcm_div]; exact Nat.mul_le_mul_right _ (Nat.div_le_self _ _)
theorem lcm_ge {a b : Nat} (ha : 0 < a) (hb : 0 < b) : a ≤ Nat.lcm a b := Nat.le_of_dvd (Nat.lcm_pos ha hb) (Nat.dvd_lcm_left a b)
theorem l01Lcm_ev (a b : Nat) (ha : 0 < a) (h : a * b ≤ 9223372036854775807) : Ev (fun k => spec_l01Lcm.f k (a : Int) (b : Int)) ((Nat.lcm a b : Nat) : Int) := by
  unfold spec_l01Lcm.f
  have hg : 0 < Nat.gcd a b := Nat.gcd_pos_of_pos_left _ ha
  refine ev_bind (l01Gcd_ev a b) (ev_neg (by omega) (ev_is ?_))
  have h0 : b = 0 ∨ a ≤ a * b := by
    rcases Nat.eq_zero_or_pos b with h0 | h0
    · exact .inl h0
    · exact .inr (Nat.le_mul_of_pos_right _ h0)
  have h1 := Nat.div_le_self a (Nat.gcd a b)
  have h2 := lcm_le a b
  rw [tdiv_nat]
  rcases h0 with h0 | h0
  · subst h0
    rw [Int.natCast_zero, Int.mul_zero, Nat.lcm_zero_right]
    decide +kernel
  · rw [wrap_nat (Nat.le_trans h1 (Nat.le_trans h0 h)), ← Int.natCast_mul, lcm_div, wrap_nat (Nat.le_trans h2 h)]
end Go.Proofs.Ytjkgjmaldbmgmaa.Pure
end
section
namespace Go.Proofs.Ytjkgjmaldbmgmaa.Pure
open Go.RowKit Go.Proofs.Ytjkgjmaldbmgmaa.P Go.Proofs.YtjkgjmaldbmgmaaW.PrintWords Go.Proofs.YtjkgjmaldbmgmaaW.PrintLast Go.Proofs.YtjkgjmaldbmgmaaW.PrintMore
set_option linter.unusedVariables false
set_option linter.unusedSimpArgs false
/-- the least common multiple of a and the numbers of a list -/
def lcmN : Nat → List Int → Nat
  | a, [] => a
  | a, g :: l => lcmN (Nat.lcm a g.toNat) l
theorem lcmN_append (a : Nat) (l m : List Int) : lcmN a (l ++ m) = lcmN (lcmN a l) m := by
  induction l generalizing a with
  | nil => rfl
  | cons g l ih => simp only [List.cons_append, lcmN, ih]
theorem lcmN_take_succ (a : Nat) (l : List Int) (n : Nat) (h : n < l.length) : lcmN a (l.take (n + 1)) = Nat.lcm (lcmN a (l.take n)) (l[n]).toNat := by
  rw [List.take_succ_eq_append_getElem h, lcmN_append]; rfl
theorem lcmN_pos (a : Nat) (ha : 0 < a) (l : List Int) (h : ∀ x ∈ l, 1 ≤ x) : 0 < lcmN a l := by
  induction l generalizing a with
  | nil => exact ha
  | cons g l ih =>
    have := h g List.mem_cons_self
    exact ih _ (Nat.lcm_pos ha (by omega)) (fun x hx => h x (List.mem_cons_of_mem _ hx))
theorem lcmN_le (l : List Int) (h : ∀ x ∈ l, 1 ≤ x ∧ x ≤ 60) : ∀ a, lcmN a l ≤ a * 60 ^ l.length := by
  induction l with
  | nil => intro a; simp [lcmN]
  | cons g l ih =>
    intro a
    have h1 := h g List.mem_cons_self
    have h2 := ih (fun x hx => h x (List.mem_cons_of_mem _ hx)) (Nat.lcm a g.toNat)
    have h3 : Nat.lcm a g.toNat ≤ a * 60 := Nat.le_trans (lcm_le _ _) (Nat.mul_le_mul_left _ (by omega))
    refine Nat.le_trans h2 ?_
    rw [List.length_cons, Nat.pow_succ, Nat.mul_comm (60 ^ l.length) 60, ← Nat.mul_assoc]
    exact Nat.mul_le_mul_right _ h3
theorem lcmN_le8 {l : List Int} (h : ∀ x ∈ l, 1 ≤ x ∧ x ≤ 60) (hl : l.length ≤ 8) : lcmN 1 l ≤ 167961600000000 := by
  have h1 := lcmN_le l h 1
  have h2 : 60 ^ l.length ≤ 60 ^ 8 := Nat.pow_le_pow_right (by omega) hl
  omega
theorem lcmN_mono (a : Nat) (ha : 0 < a) (l : List Int) (h : ∀ x ∈ l, 1 ≤ x) : a ≤ lcmN a l := by
  induction l generalizing a with
  | nil => exact Nat.le_refl _
  | cons g l ih =>
    have := h g List.mem_cons_self
    refine Nat.le_trans (lcm_ge ha (show 0 < g.toNat by omega)) ?_
    exact ih _ (Nat.lcm_pos ha (by omega)) (fun x hx => h x (List.mem_cons_of_mem _ hx))
theorem multiple_l0 (l : List Int) (hl : l.length ≤ 8) (h : ∀ x ∈ l, 1 ≤ x ∧ x ≤ 60) : ∀ d n : Nat, n + d = l.length →
    Ev (fun k => impl_Tasks_multiple.l0 k ((lcmN 1 (l.take n) : Nat) : Int) l (l.length : Int) (n : Int)) ((lcmN 1 l : Nat) : Int) := by
  intro d
  induction d with
  | zero =>
    intro n hn
    rw [List.take_of_length_le (by omega)]
    refine Ev.step (fun k => by rw [impl_Tasks_multiple.l0]) ?_
    exact ev_neg (by omega) (ev_now _)
  | succ d ih =>
    intro n hn
    have hlt : n < l.length := by omega
    have hx := h _ (List.getElem_mem hlt)
    have hm : ∀ x ∈ l.take n, 1 ≤ x ∧ x ≤ 60 := fun x hx => h x (List.mem_of_mem_take hx)
    have hp := lcmN_pos 1 (by omega) (l.take n) (fun x hx => (hm x hx).1)
    have hb := lcmN_le8 hm (by rw [List.length_take]; omega)
    have hih := ih (n + 1) (by omega)
    rw [lcmN_take_succ _ _ _ hlt] at hih
    generalize lcmN 1 (l.take n) = a at hp hb hih ⊢
    obtain ⟨g, hg⟩ : ∃ g : Nat, l[n] = (g : Int) := ⟨(l[n]).toNat, by omega⟩
    rw [hg, Int.toNat_natCast] at hih
    rw [hg] at hx
    have hgp : 0 < Nat.gcd a g := Nat.gcd_pos_of_pos_left _ hp
    have h1 := Nat.div_le_self a (Nat.gcd a g)
    have h2 : Nat.lcm a g ≤ a * 60 := Nat.le_trans (lcm_le _ _) (Nat.mul_le_mul_left _ (by omega))
    refine Ev.step (fun k => by rw [impl_Tasks_multiple.l0]) ?_
    refine ev_pos (by omega) (ev_pos (by omega) (ev_pos (by omega) ?_))
    rw [rd_nat hlt, hg]
    refine ev_bind (divisor_ev a g) (ev_neg (by omega) ?_)
    rw [tdiv_nat, wrap_nat (Nat.le_trans h1 (by omega)), ← Int.natCast_mul, lcm_div, wrap_nat (Nat.le_trans h2 (by omega)), wrap_succ (by omega)]
    exact hih
theorem multiple_ev (l : List Int) (hl : l.length ≤ 8) (h : ∀ x ∈ l, 1 ≤ x ∧ x ≤ 60) : Ev (fun k => impl_Tasks_multiple.f k l) ((lcmN 1 l : Nat) : Int) := by
  unfold impl_Tasks_multiple.f
  exact multiple_l0 l hl h l.length 0 (by omega)
end Go.Proofs.Ytjkgjmaldbmgmaa.Pure
end
section
namespace Go.Proofs.Ytjkgjmaldbmgmaa.Pure
open Go.RowKit Go.Proofs.Ytjkgjmaldbmgmaa.P Go.Proofs.YtjkgjmaldbmgmaaW.PrintWords Go.Proofs.YtjkgjmaldbmgmaaW.PrintLast Go.Proofs.YtjkgjmaldbmgmaaW.PrintMore
set_option linter.unusedVariables false
set_option linter.unusedSimpArgs false
theorem rd_set {l : List Int} {b i : Nat} {x : Int} (hb : b < l.length) : rd (l.set b x) (i : Nat) = if i = b then x else rd l (i : Nat) := by
  simp only [rd, Int.toNat_natCast, List.getD_eq_getElem?_getD, List.getElem?_set]
  by_cases h : b = i
  · subst h; simp [hb]
  · rw [if_neg h, if_neg (fun e => h e.symm)]
end Go.Proofs.Ytjkgjmaldbmgmaa.Pure
end
section
namespace Go.Proofs.Ytjkgjmaldbmgmaa.Pure
open Go.RowKit Go.Proofs.Ytjkgjmaldbmgmaa.P Go.Proofs.YtjkgjmaldbmgmaaW.PrintWords Go.Proofs.YtjkgjmaldbmgmaaW.PrintLast Go.Proofs.YtjkgjmaldbmgmaaW.PrintMore
set_option linter.unusedVariables false
set_option linter.unusedSimpArgs false
/-- the slots of jobs by earliest deadlines: the choice in a slot -/
def pick1 (left due : List Int) (best : Int) (i : Nat) : Int :=
  if rd left i > 0 then (if best < 0 then (i : Int) else if rd due i < rd due best then (i : Int) else best) else best
def pickGo (L P D : List Int) (slot : Int) : Nat → Nat → List Int → List Int → Int → List Int × List Int × Int
  | 0, _, left, due, best => (left, due, best)
  | d + 1, i, left, due, best =>
    if Int.tmod slot (rd P i) = 0 then pickGo L P D slot d (i + 1) (left.set i (rd L i)) (due.set i (slot + rd D i)) (pick1 (left.set i (rd L i)) (due.set i (slot + rd D i)) best i)
    else pickGo L P D slot d (i + 1) left due (pick1 left due best i)
structure SInv (k : Nat) (left due : List Int) : Prop where
  len : left.length = k
  len2 : due.length = k
  bnd : ∀ m : Nat, m < k → 0 ≤ rd left m ∧ rd left m ≤ 20
theorem SInv.set {k : Nat} {left due : List Int} (h : SInv k left due) {i : Nat} (hi : i < k) {x : Int} (hx : 0 ≤ x ∧ x ≤ 20) (y : Int) : SInv k (left.set i x) (due.set i y) :=
  ⟨by rw [List.length_set, h.len], by rw [List.length_set, h.len2], fun m hm => by
    rw [rd_set (by rw [h.len]; exact hi)]
    split
    · exact hx
    · exact h.bnd m hm⟩
theorem SInv.setL {k : Nat} {left due : List Int} (h : SInv k left due) {i : Nat} (hi : i < k) {x : Int} (hx : 0 ≤ x ∧ x ≤ 20) : SInv k (left.set i x) due :=
  ⟨by rw [List.length_set, h.len], h.len2, fun m hm => by
    rw [rd_set (by rw [h.len]; exact hi)]
    split
    · exact hx
    · exact h.bnd m hm⟩
/-- the best one of the first tasks -/
def Best (left due : List Int) (i : Nat) (best : Int) : Prop :=
  (best = -1 ∧ ∀ m : Nat, m < i → rd left m ≤ 0) ∨ ∃ b : Nat, best = (b : Int) ∧ b < i ∧ rd left b > 0 ∧ ∀ m : Nat, m < i → rd left m > 0 → rd due b ≤ rd due m
theorem Best.next {left due : List Int} {i : Nat} {best : Int} (h : Best left due i best) : Best left due (i + 1) (pick1 left due best i) := by
  unfold pick1
  rcases h with ⟨rfl, h⟩ | ⟨b, rfl, hb, h1, h2⟩
  · by_cases c : rd left i > 0
    · rw [if_pos c, if_pos (by omega)]
      refine .inr ⟨i, rfl, by omega, c, fun m hm hp => ?_⟩
      by_cases e : m = i
      · subst e; omega
      · have := h m (by omega); omega
    · rw [if_neg c]
      refine .inl ⟨rfl, fun m hm => ?_⟩
      by_cases e : m = i
      · subst e; omega
      · exact h m (by omega)
  · by_cases c : rd left i > 0
    · rw [if_pos c, if_neg (by omega)]
      by_cases c2 : rd due i < rd due b
      · rw [if_pos c2]
        refine .inr ⟨i, rfl, by omega, c, fun m hm hp => ?_⟩
        by_cases e : m = i
        · subst e; omega
        · have := h2 m (by omega) hp; omega
      · rw [if_neg c2]
        refine .inr ⟨b, rfl, by omega, h1, fun m hm hp => ?_⟩
        by_cases e : m = i
        · subst e; omega
        · exact h2 m (by omega) hp
    · rw [if_neg c]
      refine .inr ⟨b, rfl, by omega, h1, fun m hm hp => ?_⟩
      by_cases e : m = i
      · subst e; omega
      · exact h2 m (by omega) hp
theorem Best.congr {left due left' due' : List Int} {i : Nat} {best : Int} (h : Best left due i best) (e : ∀ m : Nat, m < i → rd left' m = rd left m) (e2 : ∀ m : Nat, m < i → rd due' m = rd due m) : Best left' due' i best := by
  rcases h with ⟨rfl, h⟩ | ⟨b, rfl, hb, h1, h2⟩
  · exact .inl ⟨rfl, fun m hm => by rw [e m hm]; exact h m hm⟩
  · exact .inr ⟨b, rfl, hb, by rw [e b hb]; exact h1, fun m hm hp => by rw [e2 b hb, e2 m hm]; rw [e m hm] at hp; exact h2 m hm hp⟩
theorem Best.range {left due : List Int} {i : Nat} {best : Int} (h : Best left due i best) : -1 ≤ best ∧ best < i := by
  rcases h with ⟨rfl, h⟩ | ⟨b, rfl, hb, h1, h2⟩ <;> omega
/-- what a slot's choice comes to -/
structure Picked (L P D : List Int) (slot : Int) (k : Nat) (left due : List Int) (r : List Int × List Int × Int) : Prop where
  inv : SInv k r.1 r.2.1
  left : ∀ m : Nat, m < k → rd r.1 m = if Int.tmod slot (rd P m) = 0 then rd L m else rd left m
  due : ∀ m : Nat, m < k → rd r.2.1 m = if Int.tmod slot (rd P m) = 0 then slot + rd D m else rd due m
  best : Best r.1 r.2.1 k r.2.2
theorem pickGo_ok (L P D : List Int) (h : isJobs L P D = true) (slot : Int) (left0 due0 : List Int) : ∀ (d i : Nat) (left due : List Int) (best : Int), i + d = L.length → SInv L.length left due → Best left due i best →
    (∀ m : Nat, m < i → rd left m = if Int.tmod slot (rd P m) = 0 then rd L m else rd left0 m) → (∀ m : Nat, i ≤ m → rd left m = rd left0 m) →
    (∀ m : Nat, m < i → rd due m = if Int.tmod slot (rd P m) = 0 then slot + rd D m else rd due0 m) → (∀ m : Nat, i ≤ m → rd due m = rd due0 m) →
    Picked L P D slot L.length left0 due0 (pickGo L P D slot d i left due best) := by
  intro d
  induction d with
  | zero =>
    intro i left due best hi hs hb h1 h2 h3 h4
    obtain rfl : i = L.length := by omega
    exact ⟨hs, h1, h3, hb⟩
  | succ d ih =>
    intro i left due best hi hs hb h1 h2 h3 h4
    have hat := isJobs_at h (i := i) (by omega)
    rw [pickGo]
    by_cases c : Int.tmod slot (rd P i) = 0
    · rw [if_pos c]
      have r1 : ∀ m : Nat, rd (left.set i (rd L i)) m = if m = i then rd L i else rd left m := fun m => rd_set (by rw [hs.len]; omega)
      have r2 : ∀ m : Nat, rd (due.set i (slot + rd D i)) m = if m = i then slot + rd D i else rd due m := fun m => rd_set (by rw [hs.len2]; omega)
      refine ih _ _ _ _ (by omega) (hs.set (by omega) (by omega) _) (Best.next (hb.congr (fun m hm => by rw [r1, if_neg (by omega)]) (fun m hm => by rw [r2, if_neg (by omega)]))) ?_ ?_ ?_ ?_
      · intro m hm
        rw [r1]
        by_cases e : m = i
        · subst e; rw [if_pos rfl, if_pos c]
        · rw [if_neg e]; exact h1 m (by omega)
      · intro m hm
        rw [r1, if_neg (by omega)]; exact h2 m (by omega)
      · intro m hm
        rw [r2]
        by_cases e : m = i
        · subst e; rw [if_pos rfl, if_pos c]
        · rw [if_neg e]; exact h3 m (by omega)
      · intro m hm
        rw [r2, if_neg (by omega)]; exact h4 m (by omega)
    · rw [if_neg c]
      refine ih _ _ _ _ (by omega) hs (Best.next hb) ?_ ?_ ?_ ?_
      · intro m hm
        by_cases e : m = i
        · subst e; rw [if_neg c]; exact h2 m (by omega)
        · exact h1 m (by omega)
      · intro m hm; exact h2 m (by omega)
      · intro m hm
        by_cases e : m = i
        · subst e; rw [if_neg c]; exact h4 m (by omega)
        · exact h3 m (by omega)
      · intro m hm; exact h4 m (by omega)
theorem pick_ok (L P D : List Int) (h : isJobs L P D = true) (slot : Int) (left due : List Int) (hs : SInv L.length left due) : Picked L P D slot L.length left due (pickGo L P D slot L.length 0 left due (-1)) :=
  pickGo_ok L P D h slot left due L.length 0 left due (-1) (by omega) hs (.inl ⟨rfl, fun m hm => by omega⟩) (fun m hm => by omega) (fun m _ => rfl) (fun m hm => by omega) (fun m _ => rfl)
/-- the first task from i that is late at a slot, or -1 -/
def lateGo (left due : List Int) (slot : Int) : Nat → Nat → Int
  | 0, _ => -1
  | d + 1, i => if rd left i > 0 ∧ rd due i = slot then (i : Int) else lateGo left due slot d (i + 1)
theorem lateGo_neg (left due : List Int) (slot : Int) : ∀ d i : Nat, (lateGo left due slot d i < 0 ↔ ∀ m : Nat, i ≤ m → m < i + d → ¬ (rd left m > 0 ∧ rd due m = slot)) ∧ (lateGo left due slot d i = -1 ∨ 0 ≤ lateGo left due slot d i) := by
  intro d
  induction d with
  | zero => intro i; exact ⟨by simp [lateGo]; intro m h1 h2; omega, .inl rfl⟩
  | succ d ih =>
    intro i
    rw [lateGo]
    by_cases c : rd left i > 0 ∧ rd due i = slot
    · rw [if_pos c]
      exact ⟨⟨fun h => by omega, fun h => absurd c (h i (by omega) (by omega))⟩, .inr (by omega)⟩
    · rw [if_neg c]
      have := ih (i + 1)
      refine ⟨⟨fun h m h1 h2 => ?_, fun h => this.1.2 fun m h1 h2 => h m (by omega) (by omega)⟩, this.2⟩
      by_cases e : m = i
      · subst e; exact c
      · exact this.1.1 h m (by omega) (by omega)
/-- one slot: releases, the choice, and one unit of work -/
def workOn (left : List Int) (best : Int) : List Int := if best ≥ 0 then left.set best.toNat (rd left best - 1) else left
def slotsGo (L P D : List Int) : Nat → Int → List Int → List Int → List Int → List Int × Int × Int
  | 0, slot, left, due, out => if lateGo left due slot L.length 0 ≥ 0 then (out, slot, lateGo left due slot L.length 0) else (out, -1, -1)
  | d + 1, slot, left, due, out =>
    if lateGo left due slot L.length 0 ≥ 0 then (out, slot, lateGo left due slot L.length 0)
    else slotsGo L P D d (slot + 1) (workOn (pickGo L P D slot L.length 0 left due (-1)).1 (pickGo L P D slot L.length 0 left due (-1)).2.2) (pickGo L P D slot L.length 0 left due (-1)).2.1 (out ++ [(pickGo L P D slot L.length 0 left due (-1)).2.2])
theorem workOn_inv {k : Nat} {left due : List Int} {best : Int} (h : SInv k left due) (hb : Best left due k best) : SInv k (workOn left best) due := by
  unfold workOn
  rcases hb with ⟨rfl, hb⟩ | ⟨b, rfl, hb, h1, h2⟩
  · rw [if_neg (by omega)]; exact h
  · rw [if_pos (by omega), Int.toNat_natCast]
    have := h.bnd b hb
    exact h.setL hb (by omega)
end Go.Proofs.Ytjkgjmaldbmgmaa.Pure
end
section
namespace Go.Proofs.Ytjkgjmaldbmgmaa.Pure
open Go.RowKit Go.Proofs.Ytjkgjmaldbmgmaa.P Go.Proofs.YtjkgjmaldbmgmaaW.PrintWords Go.Proofs.YtjkgjmaldbmgmaaW.PrintLast Go.Proofs.YtjkgjmaldbmgmaaW.PrintMore
set_option linter.unusedVariables false
set_option linter.unusedSimpArgs false
theorem isJobs_P {L P D : List Int} (h : isJobs L P D = true) : ∀ x ∈ P, 1 ≤ x ∧ x ≤ 60 := by
  intro x hx
  obtain ⟨i, hi, rfl⟩ := List.mem_iff_getElem.1 hx
  have hl := isJobs_len h
  have h1 := (isJobs_at h (i := i) (by omega)).1
  rwa [rd_nat hi] at h1
theorem whole_ev (L P D : List Int) (h : isJobs L P D = true) : Ev (fun k => impl_Jobs_whole.f k L P D) ((lcmN 1 P : Nat) : Int) := by
  unfold impl_Jobs_whole.f
  have hl := isJobs_len h
  exact ev_bind (multiple_ev P (by omega) (isJobs_P h)) (ev_now _)
/-- the reference's: it stops where it is greater than 240 -/
theorem l04Whole_l0 (L P D : List Int) (h : isJobs L P D = true) : ∀ d n : Nat, n + d = P.length →
    ∃ r : Nat, Ev (fun k => spec_l04Whole.l0 k ((lcmN 1 (P.take n) : Nat) : Int) (n : Int) L P D) (r : Int) ∧ (lcmN 1 P ≤ 240 → r = lcmN 1 P) ∧ (240 < lcmN 1 P → 240 < r) := by
  have hl := isJobs_len h
  have hP := isJobs_P h
  intro d
  induction d with
  | zero =>
    intro n hn
    rw [List.take_of_length_le (by omega)]
    refine ⟨lcmN 1 P, ?_, fun _ => rfl, fun h => h⟩
    refine Ev.step (fun k => by rw [spec_l04Whole.l0]) ?_
    exact ev_neg (by omega) (ev_now _)
  | succ d ih =>
    intro n hn
    have hlt : n < P.length := by omega
    have hx := hP _ (List.getElem_mem hlt)
    have hm : ∀ x ∈ P.take n, 1 ≤ x ∧ x ≤ 60 := fun x hx => hP x (List.mem_of_mem_take hx)
    have hp := lcmN_pos 1 (by omega) (P.take n) (fun x hx => (hm x hx).1)
    have hmono : lcmN 1 (P.take n) ≤ lcmN 1 P := by
      have e : P = P.take n ++ P.drop n := (List.take_append_drop n P).symm
      have : lcmN 1 P = lcmN (lcmN 1 (P.take n)) (P.drop n) := by rw [← lcmN_append, ← e]
      rw [this]
      exact lcmN_mono _ hp _ (fun x hx => (hP x (List.mem_of_mem_drop hx)).1)
    obtain ⟨r, hr, hr1, hr2⟩ := ih (n + 1) (by omega)
    rw [lcmN_take_succ _ _ _ hlt] at hr
    generalize lcmN 1 (P.take n) = a at hp hmono hr ⊢
    obtain ⟨g, hg⟩ : ∃ g : Nat, P[n] = (g : Int) := ⟨(P[n]).toNat, by omega⟩
    rw [hg, Int.toNat_natCast] at hr
    rw [hg] at hx
    by_cases ha : a ≤ 240
    · refine ⟨r, ?_, hr1, hr2⟩
      have hag : a * g ≤ 240 * 60 := Nat.mul_le_mul ha (by omega)
      refine Ev.step (fun k => by rw [spec_l04Whole.l0]) ?_
      refine ev_pos (by omega) (ev_pos (by omega) (ev_pos (by omega) ?_))
      rw [rd_nat hlt, hg]
      refine ev_bind (l01Lcm_ev a g hp (by omega)) ?_
      rw [wrap_succ (by omega)]
      exact hr
    · refine ⟨a, ?_, fun h => absurd h (by omega), fun _ => by omega⟩
      refine Ev.step (fun k => by rw [spec_l04Whole.l0]) ?_
      exact ev_pos (by omega) (ev_neg (by omega) (ev_now _))
theorem l04Whole_ev (L P D : List Int) (h : isJobs L P D = true) : ∃ r : Nat, Ev (fun k => spec_l04Whole.f k L P D) (r : Int) ∧ (lcmN 1 P ≤ 240 → r = lcmN 1 P) ∧ (240 < lcmN 1 P → 240 < r) := by
  unfold spec_l04Whole.f
  exact l04Whole_l0 L P D h P.length 0 (by omega)
/-- the code of jobs whose whole period has to be short -/
def shortCode (L P D : List Int) : Int := if isJobs L P D = true then (if lcmN 1 P ≤ 240 then 0 else 3) else 1
theorem l04Code_ev (L P D : List Int) : Ev (fun k => spec_l04Code.f k L P D) (shortCode L P D) := by
  unfold spec_l04Code.f shortCode
  refine ev_bind (l04Is_ev L P D) ?_
  cases h : isJobs L P D with
  | false => exact ev_neg (by simp) (ev_is (by simp))
  | true =>
    obtain ⟨r, hr, h1, h2⟩ := l04Whole_ev L P D h
    refine ev_pos rfl (ev_bind hr ?_)
    rw [if_pos rfl]
    by_cases hw : lcmN 1 P ≤ 240
    · have := h1 hw
      rw [if_pos hw]
      exact ev_neg (by omega) (ev_now _)
    · have := h2 (by omega)
      rw [if_neg hw]
      exact ev_pos (by omega) (ev_now _)
theorem jobsCode_short (L P D : List Int) : Ev (fun k => impl_jobsCode.f k L P D true true) (shortCode L P D) := by
  unfold impl_jobsCode.f shortCode
  refine ev_bind (AreJobs_ev L P D) ?_
  cases h : isJobs L P D with
  | false => exact ev_neg (by simp) (ev_is (by simp))
  | true =>
    refine ev_pos rfl (ev_pos rfl (ev_pos rfl (ev_bind (whole_ev L P D h) ?_)))
    rw [if_pos rfl]
    by_cases hw : lcmN 1 P ≤ 240
    · rw [if_pos hw]
      exact ev_neg (by omega) (ev_now _)
    · rw [if_neg hw]
      exact ev_pos (by omega) (ev_now _)
theorem shortCode_zero {L P D : List Int} (h : shortCode L P D = 0) : isJobs L P D = true ∧ lcmN 1 P ≤ 240 := by
  unfold shortCode at h
  by_cases h1 : isJobs L P D = true
  · rw [if_pos h1] at h
    by_cases h2 : lcmN 1 P ≤ 240
    · exact ⟨h1, h2⟩
    · rw [if_neg h2] at h; omega
  · rw [if_neg h1] at h; omega
end Go.Proofs.Ytjkgjmaldbmgmaa.Pure
end
section
namespace Go.Proofs.Ytjkgjmaldbmgmaa.Pure
open Go.RowKit Go.Proofs.Ytjkgjmaldbmgmaa.P Go.Proofs.YtjkgjmaldbmgmaaW.PrintWords Go.Proofs.YtjkgjmaldbmgmaaW.PrintLast Go.Proofs.YtjkgjmaldbmgmaaW.PrintMore
set_option linter.unusedVariables false
set_option linter.unusedSimpArgs false
theorem Slots_l2 (L P D : List Int) (h : isJobs L P D = true) (whole slot : Int) (hs0 : 0 ≤ slot ∧ slot ≤ 240) (out : List Int) (R : List Int × Int × Int) : ∀ (d i : Nat) (left due : List Int) (best : Int), i + d = L.length → SInv L.length left due → -1 ≤ best ∧ best < i →
    (∀ left' due' best', pickGo L P D slot d i left due best = (left', due', best') → Ev (fun k => spec_l04Slots.l2 k whole out left' due' slot best' (L.length : Int) L P D) R) →
    Ev (fun k => spec_l04Slots.l2 k whole out left due slot best (i : Int) L P D) R := by
  have hlen := isJobs_len h
  intro d
  induction d with
  | zero =>
    intro i left due best hi hs hb hR
    obtain rfl : i = L.length := by omega
    exact hR _ _ _ rfl
  | succ d ih =>
    intro i left due best hi hs hb hR
    have hat := isJobs_at h (i := i) (by omega)
    have hl1 := hs.len
    have hl2 := hs.len2
    refine Ev.step (fun k => by rw [spec_l04Slots.l2]) ?_
    refine ev_pos (by omega) (ev_pos (by omega) (ev_pos (by omega) (ev_neg (by omega) ?_)))
    rw [pickGo] at hR
    by_cases c : Int.tmod slot (rd P i) = 0
    · rw [if_pos c] at hR
      refine ev_pos c (ev_pos (by omega) (ev_fix rfl (ev_pos (by omega) (ev_pos (by omega) (ev_fix rfl ?_)))))
      rw [Int.toNat_natCast, wrap_id (x := slot + rd D i) (by omega) (by omega), wrap_succ (by omega)]
      have hs' := hs.set (i := i) (by omega) (x := rd L i) (by omega) (slot + rd D i)
      have hgo : ∀ b', pick1 (left.set i (rd L i)) (due.set i (slot + rd D i)) best i = b' → -1 ≤ b' ∧ b' < ((i + 1 : Nat) : Int) → Ev (fun k => spec_l04Slots.l2 k whole out (left.set i (rd L i)) (due.set i (slot + rd D i)) slot b' ((i + 1 : Nat) : Int) L P D) R := by
        intro b' hb' hr
        rw [hb'] at hR
        exact ih (i + 1) _ _ b' (by omega) hs' hr hR
      by_cases c1 : rd (left.set i (rd L i)) i > 0
      · refine ev_pos c1 ?_
        by_cases c2 : best < 0
        · exact ev_pos c2 (hgo _ (by rw [pick1, if_pos c1, if_pos c2]) (by omega))
        · refine ev_neg c2 (ev_pos (by omega) (ev_pos (by omega) ?_))
          by_cases c3 : rd (due.set i (slot + rd D i)) i < rd (due.set i (slot + rd D i)) best
          · exact ev_pos c3 (hgo _ (by rw [pick1, if_pos c1, if_neg c2, if_pos c3]) (by omega))
          · exact ev_neg c3 (hgo _ (by rw [pick1, if_pos c1, if_neg c2, if_neg c3]) (by omega))
      · exact ev_neg c1 (hgo _ (by rw [pick1, if_neg c1]) (by omega))
    · rw [if_neg c] at hR
      refine ev_neg c ?_
      rw [wrap_succ (by omega)]
      have hgo : ∀ b', pick1 left due best i = b' → -1 ≤ b' ∧ b' < ((i + 1 : Nat) : Int) → Ev (fun k => spec_l04Slots.l2 k whole out left due slot b' ((i + 1 : Nat) : Int) L P D) R := by
        intro b' hb' hr
        rw [hb'] at hR
        exact ih (i + 1) _ _ b' (by omega) hs hr hR
      by_cases c1 : rd left i > 0
      · refine ev_pos c1 ?_
        by_cases c2 : best < 0
        · exact ev_pos c2 (hgo _ (by rw [pick1, if_pos c1, if_pos c2]) (by omega))
        · refine ev_neg c2 (ev_pos (by omega) (ev_pos (by omega) (ev_pos (by omega) ?_)))
          by_cases c3 : rd due i < rd due best
          · exact ev_pos c3 (hgo _ (by rw [pick1, if_pos c1, if_neg c2, if_pos c3]) (by omega))
          · exact ev_neg c3 (hgo _ (by rw [pick1, if_pos c1, if_neg c2, if_neg c3]) (by omega))
      · exact ev_neg c1 (hgo _ (by rw [pick1, if_neg c1]) (by omega))
end Go.Proofs.Ytjkgjmaldbmgmaa.Pure
end
