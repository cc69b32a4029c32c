/- The program's CanMeet returns what the reference's returns, for all jobs; no condition beside. -/
import Derived.Test.YtjkgjmaldbmgmaaCFnExactCanMeet6
section
namespace Go.Proofs.Ytjkgjmaldbmgmaa.P
open Go.RowKit Go.Proofs.YtjkgjmaldbmgmaaW.PrintWords Go.Proofs.YtjkgjmaldbmgmaaW.PrintLast Go.Proofs.YtjkgjmaldbmgmaaW.PrintMore
attribute [local go_sem] max2_int min2_int max_two min_two max_three min_three max_four min_four   -- for this text's walks alone
set_option linter.unusedVariables false
set_option linter.unusedSimpArgs false
set_option maxHeartbeats 8000000 in
set_option maxRecDepth 100000 in
theorem laws_FnExactCanMeet.calls (k : Nat) (A0_0 : Option Addr) (c0_0 : Nat) (l0_0 : List Int) (A0_1 : Option Addr) (c0_1 : Nat) (l0_1 : List Int) (A0_2 : Option Addr) (c0_2 : Nat) (l0_2 : List Int) (r : Bool) (w : World) (hr0_0 : Kd.C (Kd.int .i64) w A0_0 l0_0.length l0_0) (hc0_0 : l0_0.length ≤ c0_0) (hr0_1 : Kd.C (Kd.int .i64) w A0_1 l0_1.length l0_1) (hc0_1 : l0_1.length ≤ c0_1) (hr0_2 : Kd.C (Kd.int .i64) w A0_2 l0_2.length l0_2) (hc0_2 : l0_2.length ≤ c0_2) (h : laws_FnExactCanMeet.f k l0_0 l0_1 l0_2 = some r) :
    Calls Try.prog 4 #[.agg #[.slice A0_0 l0_0.length c0_0, .slice A0_1 l0_1.length c0_1, .slice A0_2 l0_2.length c0_2]] w fun e w' => e = .returned (.bool r) ∧ Below w.heap.size w w' := by
  have hu29 := Try.underlying29
  have hu32 := Try.underlying32
  have HR0_0 := Aside0.mk hr0_0
  have HC0_0 := Aside0.mk hc0_0
  clear hr0_0 hc0_0
  have HR0_1 := Aside0.mk hr0_1
  have HC0_1 := Aside0.mk hc0_1
  clear hr0_1 hc0_1
  have HR0_2 := Aside0.mk hr0_2
  have HC0_2 := Aside0.mk hc0_2
  clear hr0_2 hc0_2
  have HB := Aside0.mk (Below.refl w.heap.size w)
  have H : ((laws_szJobs.f l0_0 l0_1 l0_2 1048576).bind fun t102 => (if t102 < 0 then (some true) else ((laws_toJobs.f k l0_0 l0_1 l0_2).bind fun bt103 => ((spec_CanMeet.f k bt103.1 bt103.2.1 bt103.2.2).bind fun bt112 => ((laws_toJobs.f k l0_0 l0_1 l0_2).bind fun bt114 => ((impl_CanMeet.f k bt114.1 bt114.2.1 bt114.2.2).bind fun bt124 => (if (bt124.1 != bt112.1) = true then (laws_FnExactCanMeet.j0 k true l0_0 l0_1 l0_2 bt114.1 bt114.2.1 bt114.2.2) else (laws_FnExactCanMeet.j0 k (bt124.2 != bt112.2) l0_0 l0_1 l0_2 bt114.1 bt114.2.1 bt114.2.2)))))))) = some r := h
  clear h
  replace H := Option.bind_eq_some_iff.mp H
  obtain ⟨t102, A20, H⟩ := H
  replace H : (if t102 < 0 then (some true) else ((laws_toJobs.f k l0_0 l0_1 l0_2).bind fun bt103 => ((spec_CanMeet.f k bt103.1 bt103.2.1 bt103.2.2).bind fun bt112 => ((laws_toJobs.f k l0_0 l0_1 l0_2).bind fun bt114 => ((impl_CanMeet.f k bt114.1 bt114.2.1 bt114.2.2).bind fun bt124 => (if (bt124.1 != bt112.1) = true then (laws_FnExactCanMeet.j0 k true l0_0 l0_1 l0_2 bt114.1 bt114.2.1 bt114.2.2) else (laws_FnExactCanMeet.j0 k (bt124.2 != bt112.2) l0_0 l0_1 l0_2 bt114.1 bt114.2.1 bt114.2.2))))))) = some r := H
  have A2 := Aside0.mk A20
  clear A20
  by_cases c3 : t102 < 0
  · rw [if_pos c3] at H
    have c3b0 : decide (t102 < 0) = true := decide_eq_true c3
    clear c3
    obtain rfl := Option.some.inj H
    go_enter Try.func4, Try.ntmps4
    go_wp2_with (first | ((with_reducible refine gate_dst (N := 1) rfl ?_); refine box_event ?hg (N := 1) ?hd (cs := #[.slice A0_0 l0_0.length c0_0, .slice A0_1 l0_1.length c0_1, .slice A0_2 l0_2.length c0_2]) (t := 29) ?hr ?_; (case hd => rfl); (case hg => rfl); (case hr => first | (go_simp; done) | (go_simp; rfl)); intro gb101 hg w4 hbox hb; have n0_ := Aside0.mk (below_step (by repeat (first | (with_reducible first | exact HB.out | apply below_alloc | apply pw_below_drewN | apply below_drew1) | exact HB.out)) hb); have n1_ := Aside0.mk (hbox); have n2_ := Aside0.mk ((by rw [hg]; exact (below_size (by repeat (first | (with_reducible first | exact HB.out | apply below_alloc | apply pw_below_drewN | apply below_drew1) | exact HB.out))) : w.heap.size ≤ gb101)); have n3_ := Aside0.mk ((by rw [hg]; exact (below_size (by repeat (first | (with_reducible first | exact HB.out | apply below_alloc | apply pw_below_drewN | apply below_drew1) | exact HB.out))) : w.heap.size ≤ gb101)); clear HB; have HB := n0_; have BK101 := n1_; have GW101 := n2_; have GE101 := n3_; clear n0_ n1_ n2_ n3_; clear hb hbox hg; have hcz5_0 : w4.cell? ⟨gb101, 0, none⟩ = some (.slice A0_0 l0_0.length c0_0) := (blk_cell BK101.out 0).trans rfl; have hcz5_1 : w4.cell? ⟨gb101, 1, none⟩ = some (.slice A0_1 l0_1.length c0_1) := (blk_cell BK101.out 1).trans rfl; have hcz5_2 : w4.cell? ⟨gb101, 2, none⟩ = some (.slice A0_2 l0_2.length c0_2) := (blk_cell BK101.out 2).trans rfl; have hfz5_0 := blk_frozen BK101.out 0; have hfz5_1 := blk_frozen BK101.out 1; have hfz5_2 := blk_frozen BK101.out 2) | ((with_reducible refine gate_callee (f := 19) rfl ?_); refine goesL_ (some 11) rfl rfl Try.func19 (by kernel_rfl) rfl #[.agg #[.slice A0_0 l0_0.length c0_0, .slice A0_1 l0_1.length c0_1, .slice A0_2 l0_2.length c0_2], .int .i64 1048576] rfl (by (try simp only [List.map_toArray, List.map_cons, List.map_nil]); first | done | rfl | (simp only [List.length_drop, List.length_take]; rfl)) ?_; (with_reducible refine (laws_szJobs.calls _ _ l0_0 _ _ l0_1 _ _ l0_2 1048576 t102 _ ?side1 ?side2 ?side3 ?side4 ?side5 ?side6 A2.out).mono ?_); (case side1 => repeat (first | exact (Kd.C_below HR0_0.out HB.out) | (with_reducible refine Kd.C_alloc ?_ _) | (with_reducible refine Kd.C_drewN ?_ _) | (with_reducible refine Kd.C_drew ?_))); (case side2 => exact HC0_0.out); (case side3 => repeat (first | exact (Kd.C_below HR0_1.out HB.out) | (with_reducible refine Kd.C_alloc ?_ _) | (with_reducible refine Kd.C_drewN ?_ _) | (with_reducible refine Kd.C_drew ?_))); (case side4 => exact HC0_1.out); (case side5 => repeat (first | exact (Kd.C_below HR0_2.out HB.out) | (with_reducible refine Kd.C_alloc ?_ _) | (with_reducible refine Kd.C_drewN ?_ _) | (with_reducible refine Kd.C_drew ?_))); (case side6 => exact HC0_2.out); rintro e w6 ⟨rfl, hb⟩; refine ⟨_, rfl, ?_⟩; have n0_ := Aside0.mk (blk_below (g := gb101) (o := .cells #[.slice A0_0 l0_0.length c0_0, .slice A0_1 l0_1.length c0_1, .slice A0_2 l0_2.length c0_2] 29 (0, 0)) (by (with_reducible repeat (first | refine blk_drewN ?_ _ | refine blk_drew ?_ | refine blk_alloc ?_ _)); exact BK101.out) hb); have n1_ := Aside0.mk (below_step (by repeat (first | (with_reducible first | exact HB.out | apply below_alloc | apply pw_below_drewN | apply below_drew1 | refine below_set ?_ GE101.out) | exact HB.out)) hb); clear BK101; clear HB; have BK101 := n0_; have HB := n1_; clear n0_ n1_; (try clear hb); (try clear hb2); (try clear hk); (try clear hi)))
    go_ret
    exact ⟨by first | rfl | (simp [errW_none, errW_some] <;> rfl) | (simp [*, errW_none, errW_some] <;> rfl), by repeat (first | (with_reducible first | exact HB.out | apply below_alloc | apply pw_below_drewN | apply below_drew1 | refine below_set ?_ GE101.out) | exact HB.out)⟩
  · rw [if_neg c3] at H
    have c3b0 : decide (t102 < 0) = false := decide_eq_false c3
    clear c3
    replace H := Option.bind_eq_some_iff.mp H
    obtain ⟨⟨t103, t106, t109⟩, A70, H⟩ := H
    replace H : ((spec_CanMeet.f k t103 t106 t109).bind fun bt112 => ((laws_toJobs.f k l0_0 l0_1 l0_2).bind fun bt114 => ((impl_CanMeet.f k bt114.1 bt114.2.1 bt114.2.2).bind fun bt124 => (if (bt124.1 != bt112.1) = true then (laws_FnExactCanMeet.j0 k true l0_0 l0_1 l0_2 bt114.1 bt114.2.1 bt114.2.2) else (laws_FnExactCanMeet.j0 k (bt124.2 != bt112.2) l0_0 l0_1 l0_2 bt114.1 bt114.2.1 bt114.2.2))))) = some r := H
    have A7 := Aside0.mk A70
    clear A70
    replace H := Option.bind_eq_some_iff.mp H
    obtain ⟨⟨t112, t113⟩, A80, H⟩ := H
    replace H : ((laws_toJobs.f k l0_0 l0_1 l0_2).bind fun bt114 => ((impl_CanMeet.f k bt114.1 bt114.2.1 bt114.2.2).bind fun bt124 => (if (bt124.1 != t112) = true then (laws_FnExactCanMeet.j0 k true l0_0 l0_1 l0_2 bt114.1 bt114.2.1 bt114.2.2) else (laws_FnExactCanMeet.j0 k (bt124.2 != t113) l0_0 l0_1 l0_2 bt114.1 bt114.2.1 bt114.2.2)))) = some r := H
    have A8 := Aside0.mk A80
    clear A80
    replace H := Option.bind_eq_some_iff.mp H
    obtain ⟨⟨t114, t117, t120⟩, A90, H⟩ := H
    replace H : ((impl_CanMeet.f k t114 t117 t120).bind fun bt124 => (if (bt124.1 != t112) = true then (laws_FnExactCanMeet.j0 k true l0_0 l0_1 l0_2 t114 t117 t120) else (laws_FnExactCanMeet.j0 k (bt124.2 != t113) l0_0 l0_1 l0_2 t114 t117 t120))) = some r := H
    have A9 := Aside0.mk A90
    clear A90
    replace H := Option.bind_eq_some_iff.mp H
    obtain ⟨⟨t124, t125⟩, A100, H⟩ := H
    replace H : (if (t124 != t112) = true then (laws_FnExactCanMeet.j0 k true l0_0 l0_1 l0_2 t114 t117 t120) else (laws_FnExactCanMeet.j0 k (t125 != t113) l0_0 l0_1 l0_2 t114 t117 t120)) = some r := H
    have A10 := Aside0.mk A100
    clear A100
    have HC11 := Aside0.mk H
    clear H
    go_enter Try.func4, Try.ntmps4
    go_upto_region 8 with (first | ((with_reducible refine gate_dst (N := 1) rfl ?_); refine box_event ?hg (N := 1) ?hd (cs := #[.slice A0_0 l0_0.length c0_0, .slice A0_1 l0_1.length c0_1, .slice A0_2 l0_2.length c0_2]) (t := 29) ?hr ?_; (case hd => rfl); (case hg => rfl); (case hr => first | (go_simp; done) | (go_simp; rfl)); intro gb101 hg w12 hbox hb; have n0_ := Aside0.mk (below_step (by repeat (first | (with_reducible first | exact HB.out | apply below_alloc | apply pw_below_drewN | apply below_drew1) | exact HB.out)) hb); have n1_ := Aside0.mk (hbox); have n2_ := Aside0.mk ((by rw [hg]; exact (below_size (by repeat (first | (with_reducible first | exact HB.out | apply below_alloc | apply pw_below_drewN | apply below_drew1) | exact HB.out))) : w.heap.size ≤ gb101)); have n3_ := Aside0.mk ((by rw [hg]; exact (below_size (by repeat (first | (with_reducible first | exact HB.out | apply below_alloc | apply pw_below_drewN | apply below_drew1) | exact HB.out))) : w.heap.size ≤ gb101)); clear HB; have HB := n0_; have BK101 := n1_; have GW101 := n2_; have GE101 := n3_; clear n0_ n1_ n2_ n3_; clear hb hbox hg; have hcz13_0 : w12.cell? ⟨gb101, 0, none⟩ = some (.slice A0_0 l0_0.length c0_0) := (blk_cell BK101.out 0).trans rfl; have hcz13_1 : w12.cell? ⟨gb101, 1, none⟩ = some (.slice A0_1 l0_1.length c0_1) := (blk_cell BK101.out 1).trans rfl; have hcz13_2 : w12.cell? ⟨gb101, 2, none⟩ = some (.slice A0_2 l0_2.length c0_2) := (blk_cell BK101.out 2).trans rfl; have hfz13_0 := blk_frozen BK101.out 0; have hfz13_1 := blk_frozen BK101.out 1; have hfz13_2 := blk_frozen BK101.out 2) | ((with_reducible refine gate_callee (f := 19) rfl ?_); refine goesL_ (some 11) rfl rfl Try.func19 (by kernel_rfl) rfl #[.agg #[.slice A0_0 l0_0.length c0_0, .slice A0_1 l0_1.length c0_1, .slice A0_2 l0_2.length c0_2], .int .i64 1048576] rfl (by (try simp only [List.map_toArray, List.map_cons, List.map_nil]); first | done | rfl | (simp only [List.length_drop, List.length_take]; rfl)) ?_; (with_reducible refine (laws_szJobs.calls _ _ l0_0 _ _ l0_1 _ _ l0_2 1048576 t102 _ ?side1 ?side2 ?side3 ?side4 ?side5 ?side6 A2.out).mono ?_); (case side1 => repeat (first | exact (Kd.C_below HR0_0.out HB.out) | (with_reducible refine Kd.C_alloc ?_ _) | (with_reducible refine Kd.C_drewN ?_ _) | (with_reducible refine Kd.C_drew ?_))); (case side2 => exact HC0_0.out); (case side3 => repeat (first | exact (Kd.C_below HR0_1.out HB.out) | (with_reducible refine Kd.C_alloc ?_ _) | (with_reducible refine Kd.C_drewN ?_ _) | (with_reducible refine Kd.C_drew ?_))); (case side4 => exact HC0_1.out); (case side5 => repeat (first | exact (Kd.C_below HR0_2.out HB.out) | (with_reducible refine Kd.C_alloc ?_ _) | (with_reducible refine Kd.C_drewN ?_ _) | (with_reducible refine Kd.C_drew ?_))); (case side6 => exact HC0_2.out); rintro e w14 ⟨rfl, hb⟩; refine ⟨_, rfl, ?_⟩; have n0_ := Aside0.mk (blk_below (g := gb101) (o := .cells #[.slice A0_0 l0_0.length c0_0, .slice A0_1 l0_1.length c0_1, .slice A0_2 l0_2.length c0_2] 29 (0, 0)) (by (with_reducible repeat (first | refine blk_drewN ?_ _ | refine blk_drew ?_ | refine blk_alloc ?_ _)); exact BK101.out) hb); have n1_ := Aside0.mk (below_step (by repeat (first | (with_reducible first | exact HB.out | apply below_alloc | apply pw_below_drewN | apply below_drew1 | refine below_set ?_ GE101.out) | exact HB.out)) hb); clear BK101; clear HB; have BK101 := n0_; have HB := n1_; clear n0_ n1_; (try clear hb); (try clear hb2); (try clear hk); (try clear hi); have hcz15_0 : w14.cell? ⟨gb101, 0, none⟩ = some (.slice A0_0 l0_0.length c0_0) := (blk_cell BK101.out 0).trans rfl; have hcz15_1 : w14.cell? ⟨gb101, 1, none⟩ = some (.slice A0_1 l0_1.length c0_1) := (blk_cell BK101.out 1).trans rfl; have hcz15_2 : w14.cell? ⟨gb101, 2, none⟩ = some (.slice A0_2 l0_2.length c0_2) := (blk_cell BK101.out 2).trans rfl; have hfz15_0 := blk_frozen BK101.out 0; have hfz15_1 := blk_frozen BK101.out 1; have hfz15_2 := blk_frozen BK101.out 2) | ((with_reducible refine gate_callee (f := 21) rfl ?_); refine goesL_ (some 16) rfl rfl Try.func21 (by kernel_rfl) rfl #[.agg #[.slice A0_0 l0_0.length c0_0, .slice A0_1 l0_1.length c0_1, .slice A0_2 l0_2.length c0_2]] rfl (by (try simp only [List.map_toArray, List.map_cons, List.map_nil]); first | done | rfl | (simp only [List.length_drop, List.length_take]; rfl)) ?_; (with_reducible refine (laws_toJobs.calls k _ _ l0_0 _ _ l0_1 _ _ l0_2 t103 t106 t109 _ ?side1 ?side2 ?side3 ?side4 ?side5 ?side6 A7.out).mono ?_); (case side1 => repeat (first | exact (Kd.C_below HR0_0.out HB.out) | (with_reducible refine Kd.C_alloc ?_ _) | (with_reducible refine Kd.C_drewN ?_ _) | (with_reducible refine Kd.C_drew ?_))); (case side2 => exact HC0_0.out); (case side3 => repeat (first | exact (Kd.C_below HR0_1.out HB.out) | (with_reducible refine Kd.C_alloc ?_ _) | (with_reducible refine Kd.C_drewN ?_ _) | (with_reducible refine Kd.C_drew ?_))); (case side4 => exact HC0_1.out); (case side5 => repeat (first | exact (Kd.C_below HR0_2.out HB.out) | (with_reducible refine Kd.C_alloc ?_ _) | (with_reducible refine Kd.C_drewN ?_ _) | (with_reducible refine Kd.C_drew ?_))); (case side6 => exact HC0_2.out); rintro e w16 ⟨v104, v107, v110, rfl, ho0, ho1, ho2, hb⟩; refine ⟨_, rfl, ?_⟩; have n0_ := Aside0.mk (Kd.R_lower ho0 (below_size (by repeat (first | (with_reducible first | exact HB.out | apply below_alloc | apply pw_below_drewN | apply below_drew1 | refine below_set ?_ GE101.out) | exact HB.out)))); have n1_ := Aside0.mk (Kd.R_lower ho1 (below_size (by repeat (first | (with_reducible first | exact HB.out | apply below_alloc | apply pw_below_drewN | apply below_drew1 | refine below_set ?_ GE101.out) | exact HB.out)))); have n2_ := Aside0.mk (Kd.R_lower ho2 (below_size (by repeat (first | (with_reducible first | exact HB.out | apply below_alloc | apply pw_below_drewN | apply below_drew1 | refine below_set ?_ GE101.out) | exact HB.out)))); have n3_ := Aside0.mk (blk_below (g := gb101) (o := .cells #[.slice A0_0 l0_0.length c0_0, .slice A0_1 l0_1.length c0_1, .slice A0_2 l0_2.length c0_2] 29 (0, 0)) (by (with_reducible repeat (first | refine blk_drewN ?_ _ | refine blk_drew ?_ | refine blk_alloc ?_ _)); exact BK101.out) hb); have n4_ := Aside0.mk (below_step (by repeat (first | (with_reducible first | exact HB.out | apply below_alloc | apply pw_below_drewN | apply below_drew1 | refine below_set ?_ GE101.out) | exact HB.out)) hb); clear BK101; clear HB; have HO105 := n0_; have HO108 := n1_; have HO111 := n2_; have BK101 := n3_; have HB := n4_; clear n0_ n1_ n2_ n3_ n4_; (try clear hb); (try clear hb2); (try clear hk); (try clear hi); (try clear ho0); (try clear ho1); (try clear ho2); obtain ⟨Ao17, co17, eo17⟩ := Kd.R_slice HO105.out; subst eo17; obtain ⟨Ao18, co18, eo18⟩ := Kd.R_slice HO108.out; subst eo18; obtain ⟨Ao19, co19, eo19⟩ := Kd.R_slice HO111.out; subst eo19) | ((with_reducible refine gate_callee (f := 20) rfl ?_); refine goesL_ (some 17) rfl rfl Try.func20 (by kernel_rfl) rfl #[.agg #[.slice Ao17 t103.length co17, .slice Ao18 t106.length co18, .slice Ao19 t109.length co19]] rfl (by (try simp only [List.map_toArray, List.map_cons, List.map_nil]); first | done | rfl | (simp only [List.length_drop, List.length_take]; rfl)) ?_; (with_reducible refine (spec_CanMeet.calls k _ _ t103 _ _ t106 _ _ t109 t112 t113 _ ?side1 ?side2 ?side3 ?side4 ?side5 ?side6 A8.out).mono ?_); (case side1 => repeat (first | exact (Kd.R_reads' HO105.out).2.2 | (with_reducible refine Kd.C_alloc ?_ _) | (with_reducible refine Kd.C_drewN ?_ _) | (with_reducible refine Kd.C_drew ?_))); (case side2 => exact (Kd.R_reads' HO105.out).2.1); (case side3 => repeat (first | exact (Kd.R_reads' HO108.out).2.2 | (with_reducible refine Kd.C_alloc ?_ _) | (with_reducible refine Kd.C_drewN ?_ _) | (with_reducible refine Kd.C_drew ?_))); (case side4 => exact (Kd.R_reads' HO108.out).2.1); (case side5 => repeat (first | exact (Kd.R_reads' HO111.out).2.2 | (with_reducible refine Kd.C_alloc ?_ _) | (with_reducible refine Kd.C_drewN ?_ _) | (with_reducible refine Kd.C_drew ?_))); (case side6 => exact (Kd.R_reads' HO111.out).2.1); rintro e w20 ⟨rfl, hb⟩; refine ⟨_, rfl, ?_⟩; have n0_ := Aside0.mk (Kd.R_below (by (with_reducible repeat (first | apply Kd.R_alloc | apply Kd.R_drewN | apply Kd.R_drew)); exact HO105.out) hb); have n1_ := Aside0.mk (Kd.R_below (by (with_reducible repeat (first | apply Kd.R_alloc | apply Kd.R_drewN | apply Kd.R_drew)); exact HO108.out) hb); have n2_ := Aside0.mk (Kd.R_below (by (with_reducible repeat (first | apply Kd.R_alloc | apply Kd.R_drewN | apply Kd.R_drew)); exact HO111.out) hb); have n3_ := Aside0.mk (blk_below (g := gb101) (o := .cells #[.slice A0_0 l0_0.length c0_0, .slice A0_1 l0_1.length c0_1, .slice A0_2 l0_2.length c0_2] 29 (0, 0)) (by (with_reducible repeat (first | refine blk_drewN ?_ _ | refine blk_drew ?_ | refine blk_alloc ?_ _)); exact BK101.out) hb); have n4_ := Aside0.mk (below_step (by repeat (first | (with_reducible first | exact HB.out | apply below_alloc | apply pw_below_drewN | apply below_drew1 | refine below_set ?_ GE101.out) | exact HB.out)) hb); clear HO105; clear HO108; clear HO111; clear BK101; clear HB; have HO105 := n0_; have HO108 := n1_; have HO111 := n2_; have BK101 := n3_; have HB := n4_; clear n0_ n1_ n2_ n3_ n4_; (try clear hb); (try clear hb2); (try clear hk); (try clear hi); have hcz21_0 : w20.cell? ⟨gb101, 0, none⟩ = some (.slice A0_0 l0_0.length c0_0) := (blk_cell BK101.out 0).trans rfl; have hcz21_1 : w20.cell? ⟨gb101, 1, none⟩ = some (.slice A0_1 l0_1.length c0_1) := (blk_cell BK101.out 1).trans rfl; have hcz21_2 : w20.cell? ⟨gb101, 2, none⟩ = some (.slice A0_2 l0_2.length c0_2) := (blk_cell BK101.out 2).trans rfl; have hfz21_0 := blk_frozen BK101.out 0; have hfz21_1 := blk_frozen BK101.out 1; have hfz21_2 := blk_frozen BK101.out 2) | ((with_reducible refine gate_callee (f := 21) rfl ?_); refine goesL_ (some 21) rfl rfl Try.func21 (by kernel_rfl) rfl #[.agg #[.slice A0_0 l0_0.length c0_0, .slice A0_1 l0_1.length c0_1, .slice A0_2 l0_2.length c0_2]] rfl (by (try simp only [List.map_toArray, List.map_cons, List.map_nil]); first | done | rfl | (simp only [List.length_drop, List.length_take]; rfl)) ?_; (with_reducible refine (laws_toJobs.calls k _ _ l0_0 _ _ l0_1 _ _ l0_2 t114 t117 t120 _ ?side1 ?side2 ?side3 ?side4 ?side5 ?side6 A9.out).mono ?_); (case side1 => repeat (first | exact (Kd.C_below HR0_0.out HB.out) | (with_reducible refine Kd.C_alloc ?_ _) | (with_reducible refine Kd.C_drewN ?_ _) | (with_reducible refine Kd.C_drew ?_))); (case side2 => exact HC0_0.out); (case side3 => repeat (first | exact (Kd.C_below HR0_1.out HB.out) | (with_reducible refine Kd.C_alloc ?_ _) | (with_reducible refine Kd.C_drewN ?_ _) | (with_reducible refine Kd.C_drew ?_))); (case side4 => exact HC0_1.out); (case side5 => repeat (first | exact (Kd.C_below HR0_2.out HB.out) | (with_reducible refine Kd.C_alloc ?_ _) | (with_reducible refine Kd.C_drewN ?_ _) | (with_reducible refine Kd.C_drew ?_))); (case side6 => exact HC0_2.out); rintro e w22 ⟨v115, v118, v121, rfl, ho0, ho1, ho2, hb⟩; refine ⟨_, rfl, ?_⟩; have n0_ := Aside0.mk (Kd.R_mono (Kd.R_told (Kd.R_told (Kd.R_told (Kd.R_old (by (with_reducible repeat (first | apply Kd.R_alloc | apply Kd.R_drewN | apply Kd.R_drew)); exact HO105.out) hb) (Kd.R_base ho0)) (Kd.R_base ho1)) (Kd.R_base ho2)) (fun _ h_ => h_.1)); have n1_ := Aside0.mk (Kd.R_mono (Kd.R_told (Kd.R_told (Kd.R_told (Kd.R_old (by (with_reducible repeat (first | apply Kd.R_alloc | apply Kd.R_drewN | apply Kd.R_drew)); exact HO108.out) hb) (Kd.R_base ho0)) (Kd.R_base ho1)) (Kd.R_base ho2)) (fun _ h_ => h_.1)); have n2_ := Aside0.mk (Kd.R_mono (Kd.R_told (Kd.R_told (Kd.R_told (Kd.R_old (by (with_reducible repeat (first | apply Kd.R_alloc | apply Kd.R_drewN | apply Kd.R_drew)); exact HO111.out) hb) (Kd.R_base ho0)) (Kd.R_base ho1)) (Kd.R_base ho2)) (fun _ h_ => h_.1)); have n3_ := Aside0.mk (Kd.R_lower (Kd.R_new' (Kd.R_new' (Kd.R_new' ho0 (Kd.R_lt (by (with_reducible repeat (first | apply Kd.R_alloc | apply Kd.R_drewN | apply Kd.R_drew)); exact HO105.out))) (Kd.R_lt (by (with_reducible repeat (first | apply Kd.R_alloc | apply Kd.R_drewN | apply Kd.R_drew)); exact HO108.out))) (Kd.R_lt (by (with_reducible repeat (first | apply Kd.R_alloc | apply Kd.R_drewN | apply Kd.R_drew)); exact HO111.out))) (below_size (by repeat (first | (with_reducible first | exact HB.out | apply below_alloc | apply pw_below_drewN | apply below_drew1 | refine below_set ?_ GE101.out) | exact HB.out)))); have n4_ := Aside0.mk (Kd.R_lower (Kd.R_new' (Kd.R_new' (Kd.R_new' ho1 (Kd.R_lt (by (with_reducible repeat (first | apply Kd.R_alloc | apply Kd.R_drewN | apply Kd.R_drew)); exact HO105.out))) (Kd.R_lt (by (with_reducible repeat (first | apply Kd.R_alloc | apply Kd.R_drewN | apply Kd.R_drew)); exact HO108.out))) (Kd.R_lt (by (with_reducible repeat (first | apply Kd.R_alloc | apply Kd.R_drewN | apply Kd.R_drew)); exact HO111.out))) (below_size (by repeat (first | (with_reducible first | exact HB.out | apply below_alloc | apply pw_below_drewN | apply below_drew1 | refine below_set ?_ GE101.out) | exact HB.out)))); have n5_ := Aside0.mk (Kd.R_lower (Kd.R_new' (Kd.R_new' (Kd.R_new' ho2 (Kd.R_lt (by (with_reducible repeat (first | apply Kd.R_alloc | apply Kd.R_drewN | apply Kd.R_drew)); exact HO105.out))) (Kd.R_lt (by (with_reducible repeat (first | apply Kd.R_alloc | apply Kd.R_drewN | apply Kd.R_drew)); exact HO108.out))) (Kd.R_lt (by (with_reducible repeat (first | apply Kd.R_alloc | apply Kd.R_drewN | apply Kd.R_drew)); exact HO111.out))) (below_size (by repeat (first | (with_reducible first | exact HB.out | apply below_alloc | apply pw_below_drewN | apply below_drew1 | refine below_set ?_ GE101.out) | exact HB.out)))); have n6_ := Aside0.mk (blk_below (g := gb101) (o := .cells #[.slice A0_0 l0_0.length c0_0, .slice A0_1 l0_1.length c0_1, .slice A0_2 l0_2.length c0_2] 29 (0, 0)) (by (with_reducible repeat (first | refine blk_drewN ?_ _ | refine blk_drew ?_ | refine blk_alloc ?_ _)); exact BK101.out) hb); have n7_ := Aside0.mk (below_step (by repeat (first | (with_reducible first | exact HB.out | apply below_alloc | apply pw_below_drewN | apply below_drew1 | refine below_set ?_ GE101.out) | exact HB.out)) hb); clear HO105; clear HO108; clear HO111; clear BK101; clear HB; have HO105 := n0_; have HO108 := n1_; have HO111 := n2_; have HO116 := n3_; have HO119 := n4_; have HO122 := n5_; have BK101 := n6_; have HB := n7_; clear n0_ n1_ n2_ n3_ n4_ n5_ n6_ n7_; (try clear hb); (try clear hb2); (try clear hk); (try clear hi); (try clear ho0); (try clear ho1); (try clear ho2)) | ((with_reducible refine gate_dst (N := 6) rfl ?_); refine box_event ?hg (N := 6) ?hd (cs := #[.slice none 0 0, .slice none 0 0, .slice none 0 0]) (t := 32) ?hr ?_; (case hd => rfl); (case hg => rfl); (case hr => first | (go_simp; done) | (go_simp; rfl)); intro gb123 hg w23 hbox hb; have n0_ := Aside0.mk (Kd.R_below (by (with_reducible repeat (first | apply Kd.R_alloc | apply Kd.R_drewN | apply Kd.R_drew)); exact HO105.out) hb); have n1_ := Aside0.mk (Kd.R_below (by (with_reducible repeat (first | apply Kd.R_alloc | apply Kd.R_drewN | apply Kd.R_drew)); exact HO108.out) hb); have n2_ := Aside0.mk (Kd.R_below (by (with_reducible repeat (first | apply Kd.R_alloc | apply Kd.R_drewN | apply Kd.R_drew)); exact HO111.out) hb); have n3_ := Aside0.mk (Kd.R_below (by (with_reducible repeat (first | apply Kd.R_alloc | apply Kd.R_drewN | apply Kd.R_drew)); exact HO116.out) hb); have n4_ := Aside0.mk (Kd.R_below (by (with_reducible repeat (first | apply Kd.R_alloc | apply Kd.R_drewN | apply Kd.R_drew)); exact HO119.out) hb); have n5_ := Aside0.mk (Kd.R_below (by (with_reducible repeat (first | apply Kd.R_alloc | apply Kd.R_drewN | apply Kd.R_drew)); exact HO122.out) hb); have n6_ := Aside0.mk (blk_below (g := gb101) (o := .cells #[.slice A0_0 l0_0.length c0_0, .slice A0_1 l0_1.length c0_1, .slice A0_2 l0_2.length c0_2] 29 (0, 0)) (by (with_reducible repeat (first | refine blk_drewN ?_ _ | refine blk_drew ?_ | refine blk_alloc ?_ _)); exact BK101.out) hb); have n7_ := Aside0.mk (below_step (by repeat (first | (with_reducible first | exact HB.out | apply below_alloc | apply pw_below_drewN | apply below_drew1 | refine below_set ?_ GE101.out) | exact HB.out)) hb); have n8_ := Aside0.mk (hbox); have n9_ := Aside0.mk ((by rw [hg]; exact (below_size (by repeat (first | (with_reducible first | exact HB.out | apply below_alloc | apply pw_below_drewN | apply below_drew1 | refine below_set ?_ GE101.out) | exact HB.out))) : w.heap.size ≤ gb123)); have n10_ := Aside0.mk ((by rw [hg]; exact (below_size (by repeat (first | (with_reducible first | exact HB.out | apply below_alloc | apply pw_below_drewN | apply below_drew1 | refine below_set ?_ GE101.out) | exact HB.out))) : w.heap.size ≤ gb123)); have n11_ := Aside0.mk ((by rw [hg]; exact Nat.ne_of_lt (blk_lt (g := gb101) (o := .cells #[.slice A0_0 l0_0.length c0_0, .slice A0_1 l0_1.length c0_1, .slice A0_2 l0_2.length c0_2] 29 (0, 0)) (by (with_reducible repeat (first | refine blk_drewN ?_ _ | refine blk_drew ?_ | refine blk_alloc ?_ _)); exact BK101.out)) : gb101 ≠ gb123)); have n12_ := Aside0.mk ((by rw [hg]; exact Nat.ne_of_gt (blk_lt (g := gb101) (o := .cells #[.slice A0_0 l0_0.length c0_0, .slice A0_1 l0_1.length c0_1, .slice A0_2 l0_2.length c0_2] 29 (0, 0)) (by (with_reducible repeat (first | refine blk_drewN ?_ _ | refine blk_drew ?_ | refine blk_alloc ?_ _)); exact BK101.out)) : gb123 ≠ gb101)); clear HO105; clear HO108; clear HO111; clear HO116; clear HO119; clear HO122; clear BK101; clear HB; have HO105 := n0_; have HO108 := n1_; have HO111 := n2_; have HO116 := n3_; have HO119 := n4_; have HO122 := n5_; have BK101 := n6_; have HB := n7_; have BK123 := n8_; have GW123 := n9_; have GE123 := n10_; have NB101_123 := n11_; have NB123_101 := n12_; clear n0_ n1_ n2_ n3_ n4_ n5_ n6_ n7_ n8_ n9_ n10_ n11_ n12_; clear hb hbox hg; obtain ⟨Ao24, co24, eo24⟩ := Kd.R_slice HO116.out; subst eo24; have hnb25 := NB123_101.out; have hnc25 := NB101_123.out; have hcz26_0 : w23.cell? ⟨gb123, 0, none⟩ = some (.slice none 0 0) := (blk_cell BK123.out 0).trans rfl; have hcz26_1 : w23.cell? ⟨gb123, 1, none⟩ = some (.slice none 0 0) := (blk_cell BK123.out 1).trans rfl; have hcz26_2 : w23.cell? ⟨gb123, 2, none⟩ = some (.slice none 0 0) := (blk_cell BK123.out 2).trans rfl; have hfz26_0 := blk_frozen BK123.out 0; have hfz26_1 := blk_frozen BK123.out 1; have hfz26_2 := blk_frozen BK123.out 2; obtain ⟨Ao27, co27, eo27⟩ := Kd.R_slice HO119.out; subst eo27; obtain ⟨Ao28, co28, eo28⟩ := Kd.R_slice HO122.out; subst eo28) | ((with_reducible refine gate_callee (f := 22) rfl ?_); refine goesL_ (some 24) rfl rfl Try.func22 (by kernel_rfl) rfl #[.agg #[.slice Ao24 t114.length co24, .slice Ao27 t117.length co27, .slice Ao28 t120.length co28]] rfl (by (try simp only [List.map_toArray, List.map_cons, List.map_nil]); first | done | rfl | (simp only [List.length_drop, List.length_take]; rfl)) ?_; (with_reducible refine (impl_CanMeet.calls k _ _ t114 _ _ t117 _ _ t120 t124 t125 _ ?side1 ?side2 ?side3 ?side4 ?side5 ?side6 A10.out).mono ?_); (case side1 => refine (Kd.R_reads' (e := 2) (base := w.heap.size) (ok := fun k_ => ((((some k_ ≠ (.slice Ao27 t117.length co27 : Value).ownBlock ∧ some k_ ≠ (.slice Ao28 t120.length co28 : Value).ownBlock) ∧ some k_ ≠ (.slice Ao17 t103.length co17 : Value).ownBlock) ∧ some k_ ≠ (.slice Ao18 t106.length co18 : Value).ownBlock) ∧ some k_ ≠ (.slice Ao19 t109.length co19 : Value).ownBlock)) (n := t114.length) (c := co24) ?_).2.2; exact (by (with_reducible repeat (first | apply Kd.R_alloc | apply Kd.R_drewN | apply Kd.R_drew)); exact (Kd.R_mono (Kd.R_far (p := ⟨gb123, 2, none⟩) (Kd.R_far (p := ⟨gb123, 1, none⟩) (Kd.R_far (p := ⟨gb123, 0, none⟩) (Kd.R_types HO116.out BK123.out (by decide)) (fun _ hk => hk.2) (.slice Ao24 t114.length co24)) (fun _ hk => hk.2) (.slice Ao27 t117.length co27)) (fun _ hk => hk.2) (.slice Ao28 t120.length co28)) (fun _ h_ => h_.1)))); (case side2 => exact (Kd.R_reads' HO116.out).2.1); (case side3 => refine (Kd.R_reads' (e := 2) (base := w.heap.size) (ok := fun k_ => ((((some k_ ≠ (.slice Ao24 t114.length co24 : Value).ownBlock ∧ some k_ ≠ (.slice Ao28 t120.length co28 : Value).ownBlock) ∧ some k_ ≠ (.slice Ao17 t103.length co17 : Value).ownBlock) ∧ some k_ ≠ (.slice Ao18 t106.length co18 : Value).ownBlock) ∧ some k_ ≠ (.slice Ao19 t109.length co19 : Value).ownBlock)) (n := t117.length) (c := co27) ?_).2.2; exact (by (with_reducible repeat (first | apply Kd.R_alloc | apply Kd.R_drewN | apply Kd.R_drew)); exact (Kd.R_mono (Kd.R_far (p := ⟨gb123, 2, none⟩) (Kd.R_far (p := ⟨gb123, 1, none⟩) (Kd.R_far (p := ⟨gb123, 0, none⟩) (Kd.R_types HO119.out BK123.out (by decide)) (fun _ hk => hk.2) (.slice Ao24 t114.length co24)) (fun _ hk => hk.2) (.slice Ao27 t117.length co27)) (fun _ hk => hk.2) (.slice Ao28 t120.length co28)) (fun _ h_ => h_.1)))); (case side4 => exact (Kd.R_reads' HO119.out).2.1); (case side5 => refine (Kd.R_reads' (e := 2) (base := w.heap.size) (ok := fun k_ => ((((some k_ ≠ (.slice Ao24 t114.length co24 : Value).ownBlock ∧ some k_ ≠ (.slice Ao27 t117.length co27 : Value).ownBlock) ∧ some k_ ≠ (.slice Ao17 t103.length co17 : Value).ownBlock) ∧ some k_ ≠ (.slice Ao18 t106.length co18 : Value).ownBlock) ∧ some k_ ≠ (.slice Ao19 t109.length co19 : Value).ownBlock)) (n := t120.length) (c := co28) ?_).2.2; exact (by (with_reducible repeat (first | apply Kd.R_alloc | apply Kd.R_drewN | apply Kd.R_drew)); exact (Kd.R_mono (Kd.R_far (p := ⟨gb123, 2, none⟩) (Kd.R_far (p := ⟨gb123, 1, none⟩) (Kd.R_far (p := ⟨gb123, 0, none⟩) (Kd.R_types HO122.out BK123.out (by decide)) (fun _ hk => hk.2) (.slice Ao24 t114.length co24)) (fun _ hk => hk.2) (.slice Ao27 t117.length co27)) (fun _ hk => hk.2) (.slice Ao28 t120.length co28)) (fun _ h_ => h_.1)))); (case side6 => exact (Kd.R_reads' HO122.out).2.1); rintro e w29 ⟨rfl, hb⟩; refine ⟨_, rfl, ?_⟩; have n0_ := Aside0.mk (Kd.R_below (by (with_reducible repeat (first | apply Kd.R_alloc | apply Kd.R_drewN | apply Kd.R_drew)); exact (Kd.R_mono (Kd.R_far (p := ⟨gb123, 2, none⟩) (Kd.R_far (p := ⟨gb123, 1, none⟩) (Kd.R_far (p := ⟨gb123, 0, none⟩) (Kd.R_types HO105.out BK123.out (by decide)) (fun _ hk => hk.2) (.slice Ao24 t114.length co24)) (fun _ hk => hk.2) (.slice Ao27 t117.length co27)) (fun _ hk => hk.2) (.slice Ao28 t120.length co28)) (fun _ h_ => h_.1))) hb); have n1_ := Aside0.mk (Kd.R_below (by (with_reducible repeat (first | apply Kd.R_alloc | apply Kd.R_drewN | apply Kd.R_drew)); exact (Kd.R_mono (Kd.R_far (p := ⟨gb123, 2, none⟩) (Kd.R_far (p := ⟨gb123, 1, none⟩) (Kd.R_far (p := ⟨gb123, 0, none⟩) (Kd.R_types HO108.out BK123.out (by decide)) (fun _ hk => hk.2) (.slice Ao24 t114.length co24)) (fun _ hk => hk.2) (.slice Ao27 t117.length co27)) (fun _ hk => hk.2) (.slice Ao28 t120.length co28)) (fun _ h_ => h_.1))) hb); have n2_ := Aside0.mk (Kd.R_below (by (with_reducible repeat (first | apply Kd.R_alloc | apply Kd.R_drewN | apply Kd.R_drew)); exact (Kd.R_mono (Kd.R_far (p := ⟨gb123, 2, none⟩) (Kd.R_far (p := ⟨gb123, 1, none⟩) (Kd.R_far (p := ⟨gb123, 0, none⟩) (Kd.R_types HO111.out BK123.out (by decide)) (fun _ hk => hk.2) (.slice Ao24 t114.length co24)) (fun _ hk => hk.2) (.slice Ao27 t117.length co27)) (fun _ hk => hk.2) (.slice Ao28 t120.length co28)) (fun _ h_ => h_.1))) hb); have n3_ := Aside0.mk (Kd.R_below (by (with_reducible repeat (first | apply Kd.R_alloc | apply Kd.R_drewN | apply Kd.R_drew)); exact (Kd.R_mono (Kd.R_far (p := ⟨gb123, 2, none⟩) (Kd.R_far (p := ⟨gb123, 1, none⟩) (Kd.R_far (p := ⟨gb123, 0, none⟩) (Kd.R_types HO116.out BK123.out (by decide)) (fun _ hk => hk.2) (.slice Ao24 t114.length co24)) (fun _ hk => hk.2) (.slice Ao27 t117.length co27)) (fun _ hk => hk.2) (.slice Ao28 t120.length co28)) (fun _ h_ => h_.1))) hb); have n4_ := Aside0.mk (Kd.R_below (by (with_reducible repeat (first | apply Kd.R_alloc | apply Kd.R_drewN | apply Kd.R_drew)); exact (Kd.R_mono (Kd.R_far (p := ⟨gb123, 2, none⟩) (Kd.R_far (p := ⟨gb123, 1, none⟩) (Kd.R_far (p := ⟨gb123, 0, none⟩) (Kd.R_types HO119.out BK123.out (by decide)) (fun _ hk => hk.2) (.slice Ao24 t114.length co24)) (fun _ hk => hk.2) (.slice Ao27 t117.length co27)) (fun _ hk => hk.2) (.slice Ao28 t120.length co28)) (fun _ h_ => h_.1))) hb); have n5_ := Aside0.mk (Kd.R_below (by (with_reducible repeat (first | apply Kd.R_alloc | apply Kd.R_drewN | apply Kd.R_drew)); exact (Kd.R_mono (Kd.R_far (p := ⟨gb123, 2, none⟩) (Kd.R_far (p := ⟨gb123, 1, none⟩) (Kd.R_far (p := ⟨gb123, 0, none⟩) (Kd.R_types HO122.out BK123.out (by decide)) (fun _ hk => hk.2) (.slice Ao24 t114.length co24)) (fun _ hk => hk.2) (.slice Ao27 t117.length co27)) (fun _ hk => hk.2) (.slice Ao28 t120.length co28)) (fun _ h_ => h_.1))) hb); have n6_ := Aside0.mk (blk_below (g := gb101) (o := .cells #[.slice A0_0 l0_0.length c0_0, .slice A0_1 l0_1.length c0_1, .slice A0_2 l0_2.length c0_2] 29 (0, 0)) (by (with_reducible repeat (first | refine blk_drewN ?_ _ | refine blk_drew ?_ | refine blk_alloc ?_ _)); refine blk_far ?_ NB101_123.out _; (with_reducible repeat (first | refine blk_drewN ?_ _ | refine blk_drew ?_ | refine blk_alloc ?_ _)); refine blk_far ?_ NB101_123.out _; (with_reducible repeat (first | refine blk_drewN ?_ _ | refine blk_drew ?_ | refine blk_alloc ?_ _)); refine blk_far ?_ NB101_123.out _; (with_reducible repeat (first | refine blk_drewN ?_ _ | refine blk_drew ?_ | refine blk_alloc ?_ _)); exact BK101.out) hb); have n7_ := Aside0.mk (blk_below (g := gb123) (o := .cells #[.slice Ao24 t114.length co24, .slice Ao27 t117.length co27, .slice Ao28 t120.length co28] 32 (0, 0)) (by (with_reducible repeat (first | refine blk_drewN ?_ _ | refine blk_drew ?_ | refine blk_alloc ?_ _)); refine blk_put (cs := #[.slice Ao24 t114.length co24, .slice Ao27 t117.length co27, .slice none 0 0]) ?_ 2 _ rfl; (with_reducible repeat (first | refine blk_drewN ?_ _ | refine blk_drew ?_ | refine blk_alloc ?_ _)); refine blk_put (cs := #[.slice Ao24 t114.length co24, .slice none 0 0, .slice none 0 0]) ?_ 1 _ rfl; (with_reducible repeat (first | refine blk_drewN ?_ _ | refine blk_drew ?_ | refine blk_alloc ?_ _)); refine blk_put (cs := #[.slice none 0 0, .slice none 0 0, .slice none 0 0]) ?_ 0 _ rfl; (with_reducible repeat (first | refine blk_drewN ?_ _ | refine blk_drew ?_ | refine blk_alloc ?_ _)); exact BK123.out) hb); have n8_ := Aside0.mk (below_step (by repeat (first | (with_reducible first | exact HB.out | apply below_alloc | apply pw_below_drewN | apply below_drew1 | refine below_set ?_ GE101.out | refine below_set ?_ GE123.out) | exact HB.out)) hb); clear HO105; clear HO108; clear HO111; clear HO116; clear HO119; clear HO122; clear BK101; clear BK123; clear HB; have HO105 := n0_; have HO108 := n1_; have HO111 := n2_; have HO116 := n3_; have HO119 := n4_; have HO122 := n5_; have BK101 := n6_; have BK123 := n7_; have HB := n8_; clear n0_ n1_ n2_ n3_ n4_ n5_ n6_ n7_ n8_; (try clear hb); (try clear hb2); (try clear hk); (try clear hi)))
    (try simp only [Act.put, List.setIfInBounds_toArray, List.set_cons_zero, List.set_cons_succ])
    go_cut [34] (fun v34 wc => ∃ (kq : Nat) (x34_10 : Bool), v34 = .bool x34_10 ∧ Aside0 (laws_FnExactCanMeet.j0 kq x34_10 l0_0 l0_1 l0_2 t114 t117 t120 = some r) ∧ Aside0 (kq ≤ k) ∧ Aside0 (Kd.R (Kd.int .i64) 2 wc w.heap.size (fun k_ => some k_ ≠ ((.slice Ao27 t117.length co27) : Value).ownBlock ∧ some k_ ≠ ((.slice Ao28 t120.length co28) : Value).ownBlock) (.slice Ao24 t114.length co24) t114) ∧ Aside0 (Kd.R (Kd.int .i64) 2 wc w.heap.size (fun k_ => some k_ ≠ ((.slice Ao24 t114.length co24) : Value).ownBlock ∧ some k_ ≠ ((.slice Ao28 t120.length co28) : Value).ownBlock) (.slice Ao27 t117.length co27) t117) ∧ Aside0 (Kd.R (Kd.int .i64) 2 wc w.heap.size (fun k_ => some k_ ≠ ((.slice Ao24 t114.length co24) : Value).ownBlock ∧ some k_ ≠ ((.slice Ao27 t117.length co27) : Value).ownBlock) (.slice Ao28 t120.length co28) t120) ∧ Aside0 (wc.heap[gb101]? = some (.cells #[(.slice A0_0 l0_0.length c0_0), (.slice A0_1 l0_1.length c0_1), (.slice A0_2 l0_2.length c0_2)] 29 (0, 0))) ∧ Aside0 (wc.heap[gb123]? = some (.cells #[(.slice Ao24 t114.length co24), (.slice Ao27 t117.length co27), (.slice Ao28 t120.length co28)] 32 (0, 0))) ∧ Aside0 (Below w.heap.size w wc))
    case first =>
      have H := HC11.out
      clear HC11
      by_cases c30 : (t124 != t112) = true
      · rw [if_pos c30] at H
        have c30b0 : (t124 != t112) = true := c30
        (try (have c30b1 : decide (t124 = t112) = false := by simpa using c30))
        (try (have c30b2 : (t124 == t112) = false := by simpa using c30))
        (try (have c30b3 : ¬ (t124 = t112) := by simpa using c30))
        clear c30
        (first | rw [c30b0] | (simp only [i64_w, i32_w]; rw [c30b0]) | skip)
        have H' := Aside0.mk H
        clear H
        go_wp2
        go_meet
        case rel => exact ⟨_, (true), (by first | rfl | (simp; done) | (simp [*]; done)), H', ⟨by first | omega | exact Nat.le_refl _⟩, ⟨by (with_reducible repeat (first | apply Kd.R_alloc | apply Kd.R_drewN | apply Kd.R_drew)); exact Kd.R_mono HO116.out (fun _ hk => ⟨hk.1.1.1.1, hk.1.1.1.2⟩)⟩, ⟨by (with_reducible repeat (first | apply Kd.R_alloc | apply Kd.R_drewN | apply Kd.R_drew)); exact Kd.R_mono HO119.out (fun _ hk => ⟨hk.1.1.1.1, hk.1.1.1.2⟩)⟩, ⟨by (with_reducible repeat (first | apply Kd.R_alloc | apply Kd.R_drewN | apply Kd.R_drew)); exact Kd.R_mono HO122.out (fun _ hk => ⟨hk.1.1.1.1, hk.1.1.1.2⟩)⟩, ⟨by (with_reducible repeat (first | refine blk_drewN ?_ _ | refine blk_drew ?_ | refine blk_alloc ?_ _)); exact BK101.out⟩, ⟨by (with_reducible repeat (first | refine blk_drewN ?_ _ | refine blk_drew ?_ | refine blk_alloc ?_ _)); exact BK123.out⟩, ⟨by repeat (first | (with_reducible first | exact HB.out | apply below_alloc | apply pw_below_drewN | apply below_drew1 | refine below_set ?_ GE101.out | refine below_set ?_ GE123.out) | exact HB.out)⟩⟩
      · rw [if_neg c30] at H
        have c30b0 : (t124 != t112) = false := by simpa using c30
        (try (have c30b1 : decide (t124 = t112) = true := by simpa using c30))
        (try (have c30b2 : (t124 == t112) = true := by simpa using c30))
        clear c30
        (first | rw [c30b0] | (simp only [i64_w, i32_w]; rw [c30b0]) | skip)
        have H' := Aside0.mk H
        clear H
        go_wp2
        go_meet
        case rel => exact ⟨_, ((t125 != t113)), (by first | rfl | (simp; done) | (simp [*]; done)), H', ⟨by first | omega | exact Nat.le_refl _⟩, ⟨by (with_reducible repeat (first | apply Kd.R_alloc | apply Kd.R_drewN | apply Kd.R_drew)); exact Kd.R_mono HO116.out (fun _ hk => ⟨hk.1.1.1.1, hk.1.1.1.2⟩)⟩, ⟨by (with_reducible repeat (first | apply Kd.R_alloc | apply Kd.R_drewN | apply Kd.R_drew)); exact Kd.R_mono HO119.out (fun _ hk => ⟨hk.1.1.1.1, hk.1.1.1.2⟩)⟩, ⟨by (with_reducible repeat (first | apply Kd.R_alloc | apply Kd.R_drewN | apply Kd.R_drew)); exact Kd.R_mono HO122.out (fun _ hk => ⟨hk.1.1.1.1, hk.1.1.1.2⟩)⟩, ⟨by (with_reducible repeat (first | refine blk_drewN ?_ _ | refine blk_drew ?_ | refine blk_alloc ?_ _)); exact BK101.out⟩, ⟨by (with_reducible repeat (first | refine blk_drewN ?_ _ | refine blk_drew ?_ | refine blk_alloc ?_ _)); exact BK123.out⟩, ⟨by repeat (first | (with_reducible first | exact HB.out | apply below_alloc | apply pw_below_drewN | apply below_drew1 | refine below_set ?_ GE101.out | refine below_set ?_ GE123.out) | exact HB.out)⟩⟩
    case rest =>
      clear HC11
      try clear c1
      try clear c2
      try clear p2
      try clear c3
      try clear c3b0
      try clear c4
      try clear c19
      try clear c20
      try clear c21
      try clear c22
      try clear c25
      try clear c30
      try clear c30b0
      try clear c30b1
      try clear c30b2
      try clear hcz13_0
      try clear hcz13_1
      try clear hcz13_2
      try clear hcz15_0
      try clear hcz15_1
      try clear hcz15_2
      try clear hcz21_0
      try clear hcz21_1
      try clear hcz21_2
      try clear hcz26_0
      try clear hcz26_1
      try clear hcz26_2
      try clear hcz5_0
      try clear hcz5_1
      try clear hcz5_2
      try clear hfz13_0
      try clear hfz13_1
      try clear hfz13_2
      try clear hfz15_0
      try clear hfz15_1
      try clear hfz15_2
      try clear hfz21_0
      try clear hfz21_1
      try clear hfz21_2
      try clear hfz26_0
      try clear hfz26_1
      try clear hfz26_2
      try clear hfz5_0
      try clear hfz5_1
      try clear hfz5_2
      obtain ⟨kq, x34_10, rfl, HA, HJ10, HO_124000, HO_124001, HO_124002, BK101, BK123, HB⟩ := hcut
      cases kq with
      | zero => exact absurd HA.out (by simp [laws_FnExactCanMeet.j0])
      | succ kj10 =>
        have H := HA.out
        clear HA
        simp only [laws_FnExactCanMeet.j0] at H
        by_cases c31 : x34_10 = true
        · subst c31
          have H1 : (some false) = some r := by rw [if_pos rfl] at H; exact H
          clear H
          have H := H1
          clear H1
          obtain rfl := Option.some.inj H
          go_wp2
          go_ret
          exact ⟨by first | rfl | (simp [errW_none, errW_some] <;> rfl) | (simp [*, errW_none, errW_some] <;> rfl), by repeat (first | (with_reducible first | exact HB.out | apply below_alloc | apply pw_below_drewN | apply below_drew1 | refine below_set ?_ GE101.out | refine below_set ?_ GE123.out) | exact HB.out)⟩
        · replace c31 := Bool.eq_false_iff.mpr c31
          subst c31
          have H1 : ((laws_toJobs.f kj10 l0_0 l0_1 l0_2).bind fun bt126 => ((laws_eqJobs.f kj10 t114 t117 t120 bt126.1 bt126.2.1 bt126.2.2).bind fun t135 => (if t135 = true then (some true) else (some false)))) = some r := by rw [if_neg (show ¬ (false = true) by decide)] at H; exact H
          clear H
          have H := H1
          clear H1
          replace H := Option.bind_eq_some_iff.mp H
          obtain ⟨⟨t126, t129, t132⟩, A320, H⟩ := H
          replace H : ((laws_eqJobs.f kj10 t114 t117 t120 t126 t129 t132).bind fun t135 => (if t135 = true then (some true) else (some false))) = some r := H
          have A32 := Aside0.mk A320
          clear A320
          replace H := Option.bind_eq_some_iff.mp H
          obtain ⟨t135, A330, H⟩ := H
          replace H : (if t135 = true then (some true) else (some false)) = some r := H
          have A33 := Aside0.mk A330
          clear A330
          by_cases c34 : t135 = true
          · subst c34
            have H1 : (some true) = some r := by rw [if_pos rfl] at H; exact H
            clear H
            have H := H1
            clear H1
            obtain rfl := Option.some.inj H
            try go_wp2
            have n0_ := Aside0.mk (Kd.R_drew HO_124000.out)
            have n1_ := Aside0.mk (Kd.R_drew HO_124001.out)
            have n2_ := Aside0.mk (Kd.R_drew HO_124002.out)
            have n3_ := Aside0.mk (blk_drew BK101.out)
            have n4_ := Aside0.mk (blk_drew BK123.out)
            have n5_ := Aside0.mk (below_drew1 HB.out)
            clear HO_124000
            clear HO_124001
            clear HO_124002
            clear BK101
            clear BK123
            clear HB
            have HO_124000 := n0_
            have HO_124001 := n1_
            have HO_124002 := n2_
            have BK101 := n3_
            have BK123 := n4_
            have HB := n5_
            clear n0_ n1_ n2_ n3_ n4_ n5_
            refine start_ (n := 5) (S := fun w' => w'.cell? ⟨gb123, 0, none⟩ = some (.slice Ao24 t114.length co24) ∧ w'.cell? ⟨gb123, 1, none⟩ = some (.slice Ao27 t117.length co27) ∧ w'.cell? ⟨gb123, 2, none⟩ = some (.slice Ao28 t120.length co28) ∧ w'.cell? ⟨gb101, 0, none⟩ = some (.slice A0_0 l0_0.length c0_0) ∧ w'.cell? ⟨gb101, 1, none⟩ = some (.slice A0_1 l0_1.length c0_1) ∧ w'.cell? ⟨gb101, 2, none⟩ = some (.slice A0_2 l0_2.length c0_2)) (ds := []) #[false, false, false, false, false] (by kernel_rfl) rfl rfl ⟨(blk_cell BK123.out 0).trans rfl, (blk_cell BK123.out 1).trans rfl, (blk_cell BK123.out 2).trans rfl, (blk_cell BK101.out 0).trans rfl, (blk_cell BK101.out 1).trans rfl, (blk_cell BK101.out 2).trans rfl⟩ (fun hHeld => ?_)
            generalize wc.drew = w35 at HO_124000 HO_124001 HO_124002 BK101 BK123 HB hHeld ⊢
            refine take_ (i := 0) (N := some 35) (v := ?_) (a' := ?_) #[true, false, false, false, false] rfl rfl (by kernel_rfl) (fun _ _ _ h => h) (Or.inl ⟨by rfl, ?_⟩) hHeld ?_ ?_
            rotate_left
            · rintro w' ⟨s0, s1, s2, s3, s4, s5⟩
              go_simp
              with_reducible rfl
            rotate_left
            · simp only [Act.put, List.setIfInBounds_toArray, List.set_cons_zero, List.set_cons_succ, i64_w, i32_w]
              rfl
            refine take_ (i := 1) (N := some 36) (v := ?_) (a' := ?_) #[true, true, false, false, false] rfl rfl (by kernel_rfl) (fun _ _ _ h => h) (Or.inl ⟨by rfl, ?_⟩) hHeld ?_ ?_
            rotate_left
            · rintro w' ⟨s0, s1, s2, s3, s4, s5⟩
              go_simp
              with_reducible rfl
            rotate_left
            · simp only [Act.put, List.setIfInBounds_toArray, List.set_cons_zero, List.set_cons_succ, i64_w, i32_w]
              rfl
            refine one_ (i := 2) (N := some 37) #[true, true, true, false, false] rfl rfl (by kernel_rfl) (by decide) (fun K hK => ?_)
            refine goes_ Try.func21 (by kernel_rfl) rfl #[.agg #[.slice A0_0 l0_0.length c0_0, .slice A0_1 l0_1.length c0_1, .slice A0_2 l0_2.length c0_2]] (by rfl) rfl rfl (by (try simp only [List.map_toArray, List.map_cons, List.map_nil]); first | done | rfl | (simp only [List.length_drop, List.length_take]; rfl)) ?_
            with_reducible refine (laws_toJobs.calls kj10 _ _ l0_0 _ _ l0_1 _ _ l0_2 t126 t129 t132 _ ?side1 ?side2 ?side3 ?side4 ?side5 ?side6 A32.out).mono ?_
            (case side1 => repeat (first | exact (Kd.C_below HR0_0.out HB.out) | (with_reducible refine Kd.C_alloc ?_ _) | (with_reducible refine Kd.C_drewN ?_ _) | (with_reducible refine Kd.C_drew ?_)))
            (case side2 => exact HC0_0.out)
            (case side3 => repeat (first | exact (Kd.C_below HR0_1.out HB.out) | (with_reducible refine Kd.C_alloc ?_ _) | (with_reducible refine Kd.C_drewN ?_ _) | (with_reducible refine Kd.C_drew ?_)))
            (case side4 => exact HC0_1.out)
            (case side5 => repeat (first | exact (Kd.C_below HR0_2.out HB.out) | (with_reducible refine Kd.C_alloc ?_ _) | (with_reducible refine Kd.C_drewN ?_ _) | (with_reducible refine Kd.C_drew ?_)))
            (case side6 => exact HC0_2.out)
            rintro e w36 ⟨v127, v130, v133, rfl, ho0, ho1, ho2, hb⟩
            refine ⟨_, rfl, ?_⟩
            have n0_ := Aside0.mk (Kd.R_mono (Kd.R_told (Kd.R_told (Kd.R_told (Kd.R_old (by (with_reducible repeat (first | apply Kd.R_alloc | apply Kd.R_drewN | apply Kd.R_drew)); exact HO_124000.out) hb) (Kd.R_base ho0)) (Kd.R_base ho1)) (Kd.R_base ho2)) (fun _ h_ => h_.1))
            have n1_ := Aside0.mk (Kd.R_mono (Kd.R_told (Kd.R_told (Kd.R_told (Kd.R_old (by (with_reducible repeat (first | apply Kd.R_alloc | apply Kd.R_drewN | apply Kd.R_drew)); exact HO_124001.out) hb) (Kd.R_base ho0)) (Kd.R_base ho1)) (Kd.R_base ho2)) (fun _ h_ => h_.1))
            have n2_ := Aside0.mk (Kd.R_mono (Kd.R_told (Kd.R_told (Kd.R_told (Kd.R_old (by (with_reducible repeat (first | apply Kd.R_alloc | apply Kd.R_drewN | apply Kd.R_drew)); exact HO_124002.out) hb) (Kd.R_base ho0)) (Kd.R_base ho1)) (Kd.R_base ho2)) (fun _ h_ => h_.1))
            have n3_ := Aside0.mk (Kd.R_lower (Kd.R_new' (Kd.R_new' (Kd.R_new' ho0 (Kd.R_lt (by (with_reducible repeat (first | apply Kd.R_alloc | apply Kd.R_drewN | apply Kd.R_drew)); exact HO_124000.out))) (Kd.R_lt (by (with_reducible repeat (first | apply Kd.R_alloc | apply Kd.R_drewN | apply Kd.R_drew)); exact HO_124001.out))) (Kd.R_lt (by (with_reducible repeat (first | apply Kd.R_alloc | apply Kd.R_drewN | apply Kd.R_drew)); exact HO_124002.out))) (below_size (by repeat (first | (with_reducible first | exact HB.out | apply below_alloc | apply pw_below_drewN | apply below_drew1 | refine below_set ?_ GE101.out | refine below_set ?_ GE123.out) | exact HB.out))))
            have n4_ := Aside0.mk (Kd.R_lower (Kd.R_new' (Kd.R_new' (Kd.R_new' ho1 (Kd.R_lt (by (with_reducible repeat (first | apply Kd.R_alloc | apply Kd.R_drewN | apply Kd.R_drew)); exact HO_124000.out))) (Kd.R_lt (by (with_reducible repeat (first | apply Kd.R_alloc | apply Kd.R_drewN | apply Kd.R_drew)); exact HO_124001.out))) (Kd.R_lt (by (with_reducible repeat (first | apply Kd.R_alloc | apply Kd.R_drewN | apply Kd.R_drew)); exact HO_124002.out))) (below_size (by repeat (first | (with_reducible first | exact HB.out | apply below_alloc | apply pw_below_drewN | apply below_drew1 | refine below_set ?_ GE101.out | refine below_set ?_ GE123.out) | exact HB.out))))
            have n5_ := Aside0.mk (Kd.R_lower (Kd.R_new' (Kd.R_new' (Kd.R_new' ho2 (Kd.R_lt (by (with_reducible repeat (first | apply Kd.R_alloc | apply Kd.R_drewN | apply Kd.R_drew)); exact HO_124000.out))) (Kd.R_lt (by (with_reducible repeat (first | apply Kd.R_alloc | apply Kd.R_drewN | apply Kd.R_drew)); exact HO_124001.out))) (Kd.R_lt (by (with_reducible repeat (first | apply Kd.R_alloc | apply Kd.R_drewN | apply Kd.R_drew)); exact HO_124002.out))) (below_size (by repeat (first | (with_reducible first | exact HB.out | apply below_alloc | apply pw_below_drewN | apply below_drew1 | refine below_set ?_ GE101.out | refine below_set ?_ GE123.out) | exact HB.out))))
            have n6_ := Aside0.mk (blk_below (g := gb101) (o := .cells #[.slice A0_0 l0_0.length c0_0, .slice A0_1 l0_1.length c0_1, .slice A0_2 l0_2.length c0_2] 29 (0, 0)) (by (with_reducible repeat (first | refine blk_drewN ?_ _ | refine blk_drew ?_ | refine blk_alloc ?_ _)); exact BK101.out) hb)
            have n7_ := Aside0.mk (blk_below (g := gb123) (o := .cells #[.slice Ao24 t114.length co24, .slice Ao27 t117.length co27, .slice Ao28 t120.length co28] 32 (0, 0)) (by (with_reducible repeat (first | refine blk_drewN ?_ _ | refine blk_drew ?_ | refine blk_alloc ?_ _)); exact BK123.out) hb)
            have n8_ := Aside0.mk (below_step (by repeat (first | (with_reducible first | exact HB.out | apply below_alloc | apply pw_below_drewN | apply below_drew1 | refine below_set ?_ GE101.out | refine below_set ?_ GE123.out) | exact HB.out)) hb)
            clear HO_124000
            clear HO_124001
            clear HO_124002
            clear BK101
            clear BK123
            clear HB
            have HO_124000 := n0_
            have HO_124001 := n1_
            have HO_124002 := n2_
            have HO128 := n3_
            have HO131 := n4_
            have HO134 := n5_
            have BK101 := n6_
            have BK123 := n7_
            have HB := n8_
            clear n0_ n1_ n2_ n3_ n4_ n5_ n6_ n7_ n8_
            (try clear hb)
            (try clear hb2)
            (try clear hk)
            (try clear hi)
            (try clear ho0)
            (try clear ho1)
            (try clear ho2)
            obtain ⟨Ao37, co37, eo37⟩ := Kd.R_slice HO128.out
            (first | subst eo37 | (injection eo37 with f1_ f2_ f3_; have f4_ := f1_.symm; have f5_ := f3_.symm; clear f1_ f2_ f3_; subst f4_; subst f5_))
            obtain ⟨Ao38, co38, eo38⟩ := Kd.R_slice HO131.out
            (first | subst eo38 | (injection eo38 with f1_ f2_ f3_; have f4_ := f1_.symm; have f5_ := f3_.symm; clear f1_ f2_ f3_; subst f4_; subst f5_))
            obtain ⟨Ao39, co39, eo39⟩ := Kd.R_slice HO134.out
            (first | subst eo39 | (injection eo39 with f1_ f2_ f3_; have f4_ := f1_.symm; have f5_ := f3_.symm; clear f1_ f2_ f3_; subst f4_; subst f5_))
            refine hK.out _ _ ⟨(blk_cell BK123.out 0).trans rfl, (blk_cell BK123.out 1).trans rfl, (blk_cell BK123.out 2).trans rfl, (blk_cell BK101.out 0).trans rfl, (blk_cell BK101.out 1).trans rfl, (blk_cell BK101.out 2).trans rfl⟩ (fun hHeld => ?_)
            clear hK K
            refine norm_ (a' := ?_) ?_ ?_
            rotate_left
            · show Act.put _ (some 37) _ = _
              simp only [Act.put, List.setIfInBounds_toArray, List.set_cons_zero, List.set_cons_succ, i64_w, i32_w]
              rfl
            refine one_ (i := 3) (N := some 38) #[true, true, true, true, false] rfl rfl (by kernel_rfl) (by decide) (fun K hK => ?_)
            refine goes_ Try.func23 (by kernel_rfl) rfl #[.agg #[.slice Ao24 t114.length co24, .slice Ao27 t117.length co27, .slice Ao28 t120.length co28], .agg #[.slice Ao37 t126.length co37, .slice Ao38 t129.length co38, .slice Ao39 t132.length co39]] (by rfl) rfl rfl (by (try simp only [List.map_toArray, List.map_cons, List.map_nil]); first | done | rfl | (simp only [List.length_drop, List.length_take]; rfl)) ?_
            with_reducible refine (laws_eqJobs.calls kj10 _ _ t114 _ _ t117 _ _ t120 _ _ t126 _ _ t129 _ _ t132 true _ ?side1 ?side2 ?side3 ?side4 ?side5 ?side6 ?side7 ?side8 ?side9 ?side10 ?side11 ?side12 A33.out).mono ?_
            (case side1 => repeat (first | exact (Kd.R_reads' HO_124000.out).2.2 | (with_reducible refine Kd.C_alloc ?_ _) | (with_reducible refine Kd.C_drewN ?_ _) | (with_reducible refine Kd.C_drew ?_)))
            (case side2 => exact (Kd.R_reads' HO_124000.out).2.1)
            (case side3 => repeat (first | exact (Kd.R_reads' HO_124001.out).2.2 | (with_reducible refine Kd.C_alloc ?_ _) | (with_reducible refine Kd.C_drewN ?_ _) | (with_reducible refine Kd.C_drew ?_)))
            (case side4 => exact (Kd.R_reads' HO_124001.out).2.1)
            (case side5 => repeat (first | exact (Kd.R_reads' HO_124002.out).2.2 | (with_reducible refine Kd.C_alloc ?_ _) | (with_reducible refine Kd.C_drewN ?_ _) | (with_reducible refine Kd.C_drew ?_)))
            (case side6 => exact (Kd.R_reads' HO_124002.out).2.1)
            (case side7 => repeat (first | exact (Kd.R_reads' HO128.out).2.2 | (with_reducible refine Kd.C_alloc ?_ _) | (with_reducible refine Kd.C_drewN ?_ _) | (with_reducible refine Kd.C_drew ?_)))
            (case side8 => exact (Kd.R_reads' HO128.out).2.1)
            (case side9 => repeat (first | exact (Kd.R_reads' HO131.out).2.2 | (with_reducible refine Kd.C_alloc ?_ _) | (with_reducible refine Kd.C_drewN ?_ _) | (with_reducible refine Kd.C_drew ?_)))
            (case side10 => exact (Kd.R_reads' HO131.out).2.1)
            (case side11 => repeat (first | exact (Kd.R_reads' HO134.out).2.2 | (with_reducible refine Kd.C_alloc ?_ _) | (with_reducible refine Kd.C_drewN ?_ _) | (with_reducible refine Kd.C_drew ?_)))
            (case side12 => exact (Kd.R_reads' HO134.out).2.1)
            rintro e w40 ⟨rfl, hb⟩
            refine ⟨_, rfl, ?_⟩
            have n0_ := Aside0.mk (Kd.R_below (by (with_reducible repeat (first | apply Kd.R_alloc | apply Kd.R_drewN | apply Kd.R_drew)); exact HO_124000.out) hb)
            have n1_ := Aside0.mk (Kd.R_below (by (with_reducible repeat (first | apply Kd.R_alloc | apply Kd.R_drewN | apply Kd.R_drew)); exact HO_124001.out) hb)
            have n2_ := Aside0.mk (Kd.R_below (by (with_reducible repeat (first | apply Kd.R_alloc | apply Kd.R_drewN | apply Kd.R_drew)); exact HO_124002.out) hb)
            have n3_ := Aside0.mk (Kd.R_below (by (with_reducible repeat (first | apply Kd.R_alloc | apply Kd.R_drewN | apply Kd.R_drew)); exact HO128.out) hb)
            have n4_ := Aside0.mk (Kd.R_below (by (with_reducible repeat (first | apply Kd.R_alloc | apply Kd.R_drewN | apply Kd.R_drew)); exact HO131.out) hb)
            have n5_ := Aside0.mk (Kd.R_below (by (with_reducible repeat (first | apply Kd.R_alloc | apply Kd.R_drewN | apply Kd.R_drew)); exact HO134.out) hb)
            have n6_ := Aside0.mk (blk_below (g := gb101) (o := .cells #[.slice A0_0 l0_0.length c0_0, .slice A0_1 l0_1.length c0_1, .slice A0_2 l0_2.length c0_2] 29 (0, 0)) (by (with_reducible repeat (first | refine blk_drewN ?_ _ | refine blk_drew ?_ | refine blk_alloc ?_ _)); exact BK101.out) hb)
            have n7_ := Aside0.mk (blk_below (g := gb123) (o := .cells #[.slice Ao24 t114.length co24, .slice Ao27 t117.length co27, .slice Ao28 t120.length co28] 32 (0, 0)) (by (with_reducible repeat (first | refine blk_drewN ?_ _ | refine blk_drew ?_ | refine blk_alloc ?_ _)); exact BK123.out) hb)
            have n8_ := Aside0.mk (below_step (by repeat (first | (with_reducible first | exact HB.out | apply below_alloc | apply pw_below_drewN | apply below_drew1 | refine below_set ?_ GE101.out | refine below_set ?_ GE123.out) | exact HB.out)) hb)
            clear HO_124000
            clear HO_124001
            clear HO_124002
            clear HO128
            clear HO131
            clear HO134
            clear BK101
            clear BK123
            clear HB
            have HO_124000 := n0_
            have HO_124001 := n1_
            have HO_124002 := n2_
            have HO128 := n3_
            have HO131 := n4_
            have HO134 := n5_
            have BK101 := n6_
            have BK123 := n7_
            have HB := n8_
            clear n0_ n1_ n2_ n3_ n4_ n5_ n6_ n7_ n8_
            (try clear hb)
            (try clear hb2)
            (try clear hk)
            (try clear hi)
            refine hK.out _ _ ⟨(blk_cell BK123.out 0).trans rfl, (blk_cell BK123.out 1).trans rfl, (blk_cell BK123.out 2).trans rfl, (blk_cell BK101.out 0).trans rfl, (blk_cell BK101.out 1).trans rfl, (blk_cell BK101.out 2).trans rfl⟩ (fun hHeld => ?_)
            clear hK K
            refine norm_ (a' := ?_) ?_ ?_
            rotate_left
            · show Act.put _ (some 38) _ = _
              simp only [Act.put, List.setIfInBounds_toArray, List.set_cons_zero, List.set_cons_succ, i64_w, i32_w]
              rfl
            refine pure_ (i := 4) (N := some 39) (v := ?_) (a' := ?_) #[true, true, true, true, true] rfl rfl (by kernel_rfl) (fun _ _ _ h => h) (Or.inl ⟨by rfl, ?_⟩) ?_ ?_
            rotate_left
            · intro w'
              go_simp
              with_reducible rfl
            rotate_left
            · simp only [Act.put, List.setIfInBounds_toArray, List.set_cons_zero, List.set_cons_succ, i64_w, i32_w]
              rfl
            refine done_ (by kernel_rfl) ?_
            try go_wp2
            go_ret
            exact ⟨by first | rfl | (simp [errW_none, errW_some] <;> rfl) | (simp [*, errW_none, errW_some] <;> rfl), by repeat (first | (with_reducible first | exact HB.out | apply below_alloc | apply pw_below_drewN | apply below_drew1 | refine below_set ?_ GE101.out | refine below_set ?_ GE123.out) | exact HB.out)⟩
          · replace c34 := Bool.eq_false_iff.mpr c34
            subst c34
            have H1 : (some false) = some r := by rw [if_neg (show ¬ (false = true) by decide)] at H; exact H
            clear H
            have H := H1
            clear H1
            obtain rfl := Option.some.inj H
            try go_wp2
            have n0_ := Aside0.mk (Kd.R_drew HO_124000.out)
            have n1_ := Aside0.mk (Kd.R_drew HO_124001.out)
            have n2_ := Aside0.mk (Kd.R_drew HO_124002.out)
            have n3_ := Aside0.mk (blk_drew BK101.out)
            have n4_ := Aside0.mk (blk_drew BK123.out)
            have n5_ := Aside0.mk (below_drew1 HB.out)
            clear HO_124000
            clear HO_124001
            clear HO_124002
            clear BK101
            clear BK123
            clear HB
            have HO_124000 := n0_
            have HO_124001 := n1_
            have HO_124002 := n2_
            have BK101 := n3_
            have BK123 := n4_
            have HB := n5_
            clear n0_ n1_ n2_ n3_ n4_ n5_
            refine start_ (n := 5) (S := fun w' => w'.cell? ⟨gb123, 0, none⟩ = some (.slice Ao24 t114.length co24) ∧ w'.cell? ⟨gb123, 1, none⟩ = some (.slice Ao27 t117.length co27) ∧ w'.cell? ⟨gb123, 2, none⟩ = some (.slice Ao28 t120.length co28) ∧ w'.cell? ⟨gb101, 0, none⟩ = some (.slice A0_0 l0_0.length c0_0) ∧ w'.cell? ⟨gb101, 1, none⟩ = some (.slice A0_1 l0_1.length c0_1) ∧ w'.cell? ⟨gb101, 2, none⟩ = some (.slice A0_2 l0_2.length c0_2)) (ds := []) #[false, false, false, false, false] (by kernel_rfl) rfl rfl ⟨(blk_cell BK123.out 0).trans rfl, (blk_cell BK123.out 1).trans rfl, (blk_cell BK123.out 2).trans rfl, (blk_cell BK101.out 0).trans rfl, (blk_cell BK101.out 1).trans rfl, (blk_cell BK101.out 2).trans rfl⟩ (fun hHeld => ?_)
            generalize wc.drew = w41 at HO_124000 HO_124001 HO_124002 BK101 BK123 HB hHeld ⊢
            refine take_ (i := 0) (N := some 35) (v := ?_) (a' := ?_) #[true, false, false, false, false] rfl rfl (by kernel_rfl) (fun _ _ _ h => h) (Or.inl ⟨by rfl, ?_⟩) hHeld ?_ ?_
            rotate_left
            · rintro w' ⟨s0, s1, s2, s3, s4, s5⟩
              go_simp
              with_reducible rfl
            rotate_left
            · simp only [Act.put, List.setIfInBounds_toArray, List.set_cons_zero, List.set_cons_succ, i64_w, i32_w]
              rfl
            refine take_ (i := 1) (N := some 36) (v := ?_) (a' := ?_) #[true, true, false, false, false] rfl rfl (by kernel_rfl) (fun _ _ _ h => h) (Or.inl ⟨by rfl, ?_⟩) hHeld ?_ ?_
            rotate_left
            · rintro w' ⟨s0, s1, s2, s3, s4, s5⟩
              go_simp
              with_reducible rfl
            rotate_left
            · simp only [Act.put, List.setIfInBounds_toArray, List.set_cons_zero, List.set_cons_succ, i64_w, i32_w]
              rfl
            refine one_ (i := 2) (N := some 37) #[true, true, true, false, false] rfl rfl (by kernel_rfl) (by decide) (fun K hK => ?_)
            refine goes_ Try.func21 (by kernel_rfl) rfl #[.agg #[.slice A0_0 l0_0.length c0_0, .slice A0_1 l0_1.length c0_1, .slice A0_2 l0_2.length c0_2]] (by rfl) rfl rfl (by (try simp only [List.map_toArray, List.map_cons, List.map_nil]); first | done | rfl | (simp only [List.length_drop, List.length_take]; rfl)) ?_
            with_reducible refine (laws_toJobs.calls kj10 _ _ l0_0 _ _ l0_1 _ _ l0_2 t126 t129 t132 _ ?side1 ?side2 ?side3 ?side4 ?side5 ?side6 A32.out).mono ?_
            (case side1 => repeat (first | exact (Kd.C_below HR0_0.out HB.out) | (with_reducible refine Kd.C_alloc ?_ _) | (with_reducible refine Kd.C_drewN ?_ _) | (with_reducible refine Kd.C_drew ?_)))
            (case side2 => exact HC0_0.out)
            (case side3 => repeat (first | exact (Kd.C_below HR0_1.out HB.out) | (with_reducible refine Kd.C_alloc ?_ _) | (with_reducible refine Kd.C_drewN ?_ _) | (with_reducible refine Kd.C_drew ?_)))
            (case side4 => exact HC0_1.out)
            (case side5 => repeat (first | exact (Kd.C_below HR0_2.out HB.out) | (with_reducible refine Kd.C_alloc ?_ _) | (with_reducible refine Kd.C_drewN ?_ _) | (with_reducible refine Kd.C_drew ?_)))
            (case side6 => exact HC0_2.out)
            rintro e w42 ⟨v127, v130, v133, rfl, ho0, ho1, ho2, hb⟩
            refine ⟨_, rfl, ?_⟩
            have n0_ := Aside0.mk (Kd.R_mono (Kd.R_told (Kd.R_told (Kd.R_told (Kd.R_old (by (with_reducible repeat (first | apply Kd.R_alloc | apply Kd.R_drewN | apply Kd.R_drew)); exact HO_124000.out) hb) (Kd.R_base ho0)) (Kd.R_base ho1)) (Kd.R_base ho2)) (fun _ h_ => h_.1))
            have n1_ := Aside0.mk (Kd.R_mono (Kd.R_told (Kd.R_told (Kd.R_told (Kd.R_old (by (with_reducible repeat (first | apply Kd.R_alloc | apply Kd.R_drewN | apply Kd.R_drew)); exact HO_124001.out) hb) (Kd.R_base ho0)) (Kd.R_base ho1)) (Kd.R_base ho2)) (fun _ h_ => h_.1))
            have n2_ := Aside0.mk (Kd.R_mono (Kd.R_told (Kd.R_told (Kd.R_told (Kd.R_old (by (with_reducible repeat (first | apply Kd.R_alloc | apply Kd.R_drewN | apply Kd.R_drew)); exact HO_124002.out) hb) (Kd.R_base ho0)) (Kd.R_base ho1)) (Kd.R_base ho2)) (fun _ h_ => h_.1))
            have n3_ := Aside0.mk (Kd.R_lower (Kd.R_new' (Kd.R_new' (Kd.R_new' ho0 (Kd.R_lt (by (with_reducible repeat (first | apply Kd.R_alloc | apply Kd.R_drewN | apply Kd.R_drew)); exact HO_124000.out))) (Kd.R_lt (by (with_reducible repeat (first | apply Kd.R_alloc | apply Kd.R_drewN | apply Kd.R_drew)); exact HO_124001.out))) (Kd.R_lt (by (with_reducible repeat (first | apply Kd.R_alloc | apply Kd.R_drewN | apply Kd.R_drew)); exact HO_124002.out))) (below_size (by repeat (first | (with_reducible first | exact HB.out | apply below_alloc | apply pw_below_drewN | apply below_drew1 | refine below_set ?_ GE101.out | refine below_set ?_ GE123.out) | exact HB.out))))
            have n4_ := Aside0.mk (Kd.R_lower (Kd.R_new' (Kd.R_new' (Kd.R_new' ho1 (Kd.R_lt (by (with_reducible repeat (first | apply Kd.R_alloc | apply Kd.R_drewN | apply Kd.R_drew)); exact HO_124000.out))) (Kd.R_lt (by (with_reducible repeat (first | apply Kd.R_alloc | apply Kd.R_drewN | apply Kd.R_drew)); exact HO_124001.out))) (Kd.R_lt (by (with_reducible repeat (first | apply Kd.R_alloc | apply Kd.R_drewN | apply Kd.R_drew)); exact HO_124002.out))) (below_size (by repeat (first | (with_reducible first | exact HB.out | apply below_alloc | apply pw_below_drewN | apply below_drew1 | refine below_set ?_ GE101.out | refine below_set ?_ GE123.out) | exact HB.out))))
            have n5_ := Aside0.mk (Kd.R_lower (Kd.R_new' (Kd.R_new' (Kd.R_new' ho2 (Kd.R_lt (by (with_reducible repeat (first | apply Kd.R_alloc | apply Kd.R_drewN | apply Kd.R_drew)); exact HO_124000.out))) (Kd.R_lt (by (with_reducible repeat (first | apply Kd.R_alloc | apply Kd.R_drewN | apply Kd.R_drew)); exact HO_124001.out))) (Kd.R_lt (by (with_reducible repeat (first | apply Kd.R_alloc | apply Kd.R_drewN | apply Kd.R_drew)); exact HO_124002.out))) (below_size (by repeat (first | (with_reducible first | exact HB.out | apply below_alloc | apply pw_below_drewN | apply below_drew1 | refine below_set ?_ GE101.out | refine below_set ?_ GE123.out) | exact HB.out))))
            have n6_ := Aside0.mk (blk_below (g := gb101) (o := .cells #[.slice A0_0 l0_0.length c0_0, .slice A0_1 l0_1.length c0_1, .slice A0_2 l0_2.length c0_2] 29 (0, 0)) (by (with_reducible repeat (first | refine blk_drewN ?_ _ | refine blk_drew ?_ | refine blk_alloc ?_ _)); exact BK101.out) hb)
            have n7_ := Aside0.mk (blk_below (g := gb123) (o := .cells #[.slice Ao24 t114.length co24, .slice Ao27 t117.length co27, .slice Ao28 t120.length co28] 32 (0, 0)) (by (with_reducible repeat (first | refine blk_drewN ?_ _ | refine blk_drew ?_ | refine blk_alloc ?_ _)); exact BK123.out) hb)
            have n8_ := Aside0.mk (below_step (by repeat (first | (with_reducible first | exact HB.out | apply below_alloc | apply pw_below_drewN | apply below_drew1 | refine below_set ?_ GE101.out | refine below_set ?_ GE123.out) | exact HB.out)) hb)
            clear HO_124000
            clear HO_124001
            clear HO_124002
            clear BK101
            clear BK123
            clear HB
            have HO_124000 := n0_
            have HO_124001 := n1_
            have HO_124002 := n2_
            have HO128 := n3_
            have HO131 := n4_
            have HO134 := n5_
            have BK101 := n6_
            have BK123 := n7_
            have HB := n8_
            clear n0_ n1_ n2_ n3_ n4_ n5_ n6_ n7_ n8_
            (try clear hb)
            (try clear hb2)
            (try clear hk)
            (try clear hi)
            (try clear ho0)
            (try clear ho1)
            (try clear ho2)
            obtain ⟨Ao43, co43, eo43⟩ := Kd.R_slice HO128.out
            (first | subst eo43 | (injection eo43 with f1_ f2_ f3_; have f4_ := f1_.symm; have f5_ := f3_.symm; clear f1_ f2_ f3_; subst f4_; subst f5_))
            obtain ⟨Ao44, co44, eo44⟩ := Kd.R_slice HO131.out
            (first | subst eo44 | (injection eo44 with f1_ f2_ f3_; have f4_ := f1_.symm; have f5_ := f3_.symm; clear f1_ f2_ f3_; subst f4_; subst f5_))
            obtain ⟨Ao45, co45, eo45⟩ := Kd.R_slice HO134.out
            (first | subst eo45 | (injection eo45 with f1_ f2_ f3_; have f4_ := f1_.symm; have f5_ := f3_.symm; clear f1_ f2_ f3_; subst f4_; subst f5_))
            refine hK.out _ _ ⟨(blk_cell BK123.out 0).trans rfl, (blk_cell BK123.out 1).trans rfl, (blk_cell BK123.out 2).trans rfl, (blk_cell BK101.out 0).trans rfl, (blk_cell BK101.out 1).trans rfl, (blk_cell BK101.out 2).trans rfl⟩ (fun hHeld => ?_)
            clear hK K
            refine norm_ (a' := ?_) ?_ ?_
            rotate_left
            · show Act.put _ (some 37) _ = _
              simp only [Act.put, List.setIfInBounds_toArray, List.set_cons_zero, List.set_cons_succ, i64_w, i32_w]
              rfl
            refine one_ (i := 3) (N := some 38) #[true, true, true, true, false] rfl rfl (by kernel_rfl) (by decide) (fun K hK => ?_)
            refine goes_ Try.func23 (by kernel_rfl) rfl #[.agg #[.slice Ao24 t114.length co24, .slice Ao27 t117.length co27, .slice Ao28 t120.length co28], .agg #[.slice Ao43 t126.length co43, .slice Ao44 t129.length co44, .slice Ao45 t132.length co45]] (by rfl) rfl rfl (by (try simp only [List.map_toArray, List.map_cons, List.map_nil]); first | done | rfl | (simp only [List.length_drop, List.length_take]; rfl)) ?_
            with_reducible refine (laws_eqJobs.calls kj10 _ _ t114 _ _ t117 _ _ t120 _ _ t126 _ _ t129 _ _ t132 false _ ?side1 ?side2 ?side3 ?side4 ?side5 ?side6 ?side7 ?side8 ?side9 ?side10 ?side11 ?side12 A33.out).mono ?_
            (case side1 => repeat (first | exact (Kd.R_reads' HO_124000.out).2.2 | (with_reducible refine Kd.C_alloc ?_ _) | (with_reducible refine Kd.C_drewN ?_ _) | (with_reducible refine Kd.C_drew ?_)))
            (case side2 => exact (Kd.R_reads' HO_124000.out).2.1)
            (case side3 => repeat (first | exact (Kd.R_reads' HO_124001.out).2.2 | (with_reducible refine Kd.C_alloc ?_ _) | (with_reducible refine Kd.C_drewN ?_ _) | (with_reducible refine Kd.C_drew ?_)))
            (case side4 => exact (Kd.R_reads' HO_124001.out).2.1)
            (case side5 => repeat (first | exact (Kd.R_reads' HO_124002.out).2.2 | (with_reducible refine Kd.C_alloc ?_ _) | (with_reducible refine Kd.C_drewN ?_ _) | (with_reducible refine Kd.C_drew ?_)))
            (case side6 => exact (Kd.R_reads' HO_124002.out).2.1)
            (case side7 => repeat (first | exact (Kd.R_reads' HO128.out).2.2 | (with_reducible refine Kd.C_alloc ?_ _) | (with_reducible refine Kd.C_drewN ?_ _) | (with_reducible refine Kd.C_drew ?_)))
            (case side8 => exact (Kd.R_reads' HO128.out).2.1)
            (case side9 => repeat (first | exact (Kd.R_reads' HO131.out).2.2 | (with_reducible refine Kd.C_alloc ?_ _) | (with_reducible refine Kd.C_drewN ?_ _) | (with_reducible refine Kd.C_drew ?_)))
            (case side10 => exact (Kd.R_reads' HO131.out).2.1)
            (case side11 => repeat (first | exact (Kd.R_reads' HO134.out).2.2 | (with_reducible refine Kd.C_alloc ?_ _) | (with_reducible refine Kd.C_drewN ?_ _) | (with_reducible refine Kd.C_drew ?_)))
            (case side12 => exact (Kd.R_reads' HO134.out).2.1)
            rintro e w46 ⟨rfl, hb⟩
            refine ⟨_, rfl, ?_⟩
            have n0_ := Aside0.mk (Kd.R_below (by (with_reducible repeat (first | apply Kd.R_alloc | apply Kd.R_drewN | apply Kd.R_drew)); exact HO_124000.out) hb)
            have n1_ := Aside0.mk (Kd.R_below (by (with_reducible repeat (first | apply Kd.R_alloc | apply Kd.R_drewN | apply Kd.R_drew)); exact HO_124001.out) hb)
            have n2_ := Aside0.mk (Kd.R_below (by (with_reducible repeat (first | apply Kd.R_alloc | apply Kd.R_drewN | apply Kd.R_drew)); exact HO_124002.out) hb)
            have n3_ := Aside0.mk (Kd.R_below (by (with_reducible repeat (first | apply Kd.R_alloc | apply Kd.R_drewN | apply Kd.R_drew)); exact HO128.out) hb)
            have n4_ := Aside0.mk (Kd.R_below (by (with_reducible repeat (first | apply Kd.R_alloc | apply Kd.R_drewN | apply Kd.R_drew)); exact HO131.out) hb)
            have n5_ := Aside0.mk (Kd.R_below (by (with_reducible repeat (first | apply Kd.R_alloc | apply Kd.R_drewN | apply Kd.R_drew)); exact HO134.out) hb)
            have n6_ := Aside0.mk (blk_below (g := gb101) (o := .cells #[.slice A0_0 l0_0.length c0_0, .slice A0_1 l0_1.length c0_1, .slice A0_2 l0_2.length c0_2] 29 (0, 0)) (by (with_reducible repeat (first | refine blk_drewN ?_ _ | refine blk_drew ?_ | refine blk_alloc ?_ _)); exact BK101.out) hb)
            have n7_ := Aside0.mk (blk_below (g := gb123) (o := .cells #[.slice Ao24 t114.length co24, .slice Ao27 t117.length co27, .slice Ao28 t120.length co28] 32 (0, 0)) (by (with_reducible repeat (first | refine blk_drewN ?_ _ | refine blk_drew ?_ | refine blk_alloc ?_ _)); exact BK123.out) hb)
            have n8_ := Aside0.mk (below_step (by repeat (first | (with_reducible first | exact HB.out | apply below_alloc | apply pw_below_drewN | apply below_drew1 | refine below_set ?_ GE101.out | refine below_set ?_ GE123.out) | exact HB.out)) hb)
            clear HO_124000
            clear HO_124001
            clear HO_124002
            clear HO128
            clear HO131
            clear HO134
            clear BK101
            clear BK123
            clear HB
            have HO_124000 := n0_
            have HO_124001 := n1_
            have HO_124002 := n2_
            have HO128 := n3_
            have HO131 := n4_
            have HO134 := n5_
            have BK101 := n6_
            have BK123 := n7_
            have HB := n8_
            clear n0_ n1_ n2_ n3_ n4_ n5_ n6_ n7_ n8_
            (try clear hb)
            (try clear hb2)
            (try clear hk)
            (try clear hi)
            refine hK.out _ _ ⟨(blk_cell BK123.out 0).trans rfl, (blk_cell BK123.out 1).trans rfl, (blk_cell BK123.out 2).trans rfl, (blk_cell BK101.out 0).trans rfl, (blk_cell BK101.out 1).trans rfl, (blk_cell BK101.out 2).trans rfl⟩ (fun hHeld => ?_)
            clear hK K
            refine norm_ (a' := ?_) ?_ ?_
            rotate_left
            · show Act.put _ (some 38) _ = _
              simp only [Act.put, List.setIfInBounds_toArray, List.set_cons_zero, List.set_cons_succ, i64_w, i32_w]
              rfl
            refine pure_ (i := 4) (N := some 39) (v := ?_) (a' := ?_) #[true, true, true, true, true] rfl rfl (by kernel_rfl) (fun _ _ _ h => h) (Or.inl ⟨by rfl, ?_⟩) ?_ ?_
            rotate_left
            · intro w'
              go_simp
              with_reducible rfl
            rotate_left
            · simp only [Act.put, List.setIfInBounds_toArray, List.set_cons_zero, List.set_cons_succ, i64_w, i32_w]
              rfl
            refine done_ (by kernel_rfl) ?_
            try go_wp2
            go_ret
            exact ⟨by first | rfl | (simp [errW_none, errW_some] <;> rfl) | (simp [*, errW_none, errW_some] <;> rfl), by repeat (first | (with_reducible first | exact HB.out | apply below_alloc | apply pw_below_drewN | apply below_drew1 | refine below_set ?_ GE101.out | refine below_set ?_ GE123.out) | exact HB.out)⟩
/-- THE ONE PURE STATEMENT of laws_FnExactCanMeet. -/
def laws_FnExactCanMeet.Pure : Prop := ∀ (l0_0 : List Int) (l0_1 : List Int) (l0_2 : List Int), okRow (okInt .i64) l0_0 → okRow (okInt .i64) l0_1 → okRow (okInt .i64) l0_2 → ∃ k, laws_FnExactCanMeet.f k l0_0 l0_1 l0_2 = some true
theorem laws_FnExactCanMeet.walk (P : laws_FnExactCanMeet.Pure) (A0_0 : Option Addr) (c0_0 : Nat) (l0_0 : List Int) (A0_1 : Option Addr) (c0_1 : Nat) (l0_1 : List Int) (A0_2 : Option Addr) (c0_2 : Nat) (l0_2 : List Int) (w : World) (hr0_0 : Kd.C (Kd.int .i64) w A0_0 l0_0.length l0_0) (hc0_0 : l0_0.length ≤ c0_0) (hr0_1 : Kd.C (Kd.int .i64) w A0_1 l0_1.length l0_1) (hc0_1 : l0_1.length ≤ c0_1) (hr0_2 : Kd.C (Kd.int .i64) w A0_2 l0_2.length l0_2) (hc0_2 : l0_2.length ≤ c0_2) (w0_0 : okRow (okInt .i64) l0_0) (w0_1 : okRow (okInt .i64) l0_1) (w0_2 : okRow (okInt .i64) l0_2) :
    Calls Try.prog 4 #[.agg #[.slice A0_0 l0_0.length c0_0, .slice A0_1 l0_1.length c0_1, .slice A0_2 l0_2.length c0_2]] w fun e w' => e = .returned (.bool true) ∧ Below w.heap.size w w' := by
  obtain ⟨k, h⟩ := P l0_0 l0_1 l0_2 w0_0 w0_1 w0_2
  refine (laws_FnExactCanMeet.calls k A0_0 c0_0 l0_0 A0_1 c0_1 l0_1 A0_2 c0_2 l0_2 true w hr0_0 hc0_0 hr0_1 hc0_1 hr0_2 hc0_2 h).mono ?_
  rintro e w' ⟨rfl, hd⟩
  exact ⟨rfl, hd⟩
end Go.Proofs.Ytjkgjmaldbmgmaa.P
end
section
namespace Go.Proofs.Ytjkgjmaldbmgmaa.Pure
open Go.RowKit Go.Proofs.Ytjkgjmaldbmgmaa.P Go.Proofs.YtjkgjmaldbmgmaaW.PrintWords Go.Proofs.YtjkgjmaldbmgmaaW.PrintLast Go.Proofs.YtjkgjmaldbmgmaaW.PrintMore
set_option linter.unusedVariables false
set_option linter.unusedSimpArgs false
theorem ev_pos {α : Type} {c : Prop} [Decidable c] {A B : Nat → Option α} {r : α} (h : c) (e : Ev A r) : Ev (fun n => if c then A n else B n) r := Ev.congr (fun n => if_pos h) e
theorem ev_neg {α : Type} {c : Prop} [Decidable c] {A B : Nat → Option α} {r : α} (h : ¬ c) (e : Ev B r) : Ev (fun n => if c then A n else B n) r := Ev.congr (fun n => if_neg h) e
theorem ev_now {α : Type} (r : α) : Ev (fun _ => some r) r := Ev.now r
theorem ev_is {α : Type} {g : Option α} {r : α} (h : g = some r) : Ev (fun _ => g) r := by subst h; exact Ev.now r
theorem ev_bind {α β : Type} {g : Nat → Option α} {f : Nat → α → Option β} {a : α} {r : β} (h : Ev g a) (k : Ev (fun n => f n a) r) : Ev (fun n => (g n).bind (f n)) r := Ev.bind h k
theorem ev_fix {α β : Type} {g : Option α} {f : Nat → α → Option β} {a : α} {r : β} (h : g = some a) (k : Ev (fun n => f n a) r) : Ev (fun n => g.bind (f n)) r := by subst h; exact k
theorem ev_rounds {α : Type} {g : Nat → Option α} {r : α} (h : Ev g r) : ∃ k, g k = some r := h.rounds
theorem wrap_id {x : Int} (h1 : -9223372036854775808 ≤ x) (h2 : x ≤ 9223372036854775807) : wrap64 x = x := by unfold wrap64; omega
theorem wrap_succ {n : Nat} (h : n + 1 ≤ 9223372036854775807) : wrap64 ((n : Int) + 1) = ((n + 1 : Nat) : Int) := by rw [wrap_id (by omega) (by omega)]; omega
theorem rd_nat {l : List Int} {n : Nat} (h : n < l.length) : rd l (n : Int) = l[n] := by simp [rd, h]
theorem wrap_nat {n : Nat} (h : n ≤ 9223372036854775807) : wrap64 (n : Int) = n := wrap_id (by omega) (by omega)
end Go.Proofs.Ytjkgjmaldbmgmaa.Pure
end
section
namespace Go.Proofs.Ytjkgjmaldbmgmaa.P
open Go.RowKit Go.Proofs.YtjkgjmaldbmgmaaW.PrintWords Go.Proofs.YtjkgjmaldbmgmaaW.PrintLast Go.Proofs.YtjkgjmaldbmgmaaW.PrintMore
attribute [local go_sem] max2_int min2_int max_two min_two max_three min_three max_four min_four   -- for this text's walks alone
set_option linter.unusedVariables false
set_option linter.unusedSimpArgs false
theorem within_f (n lo hi : Int) : impl_within.f n lo hi = some (decide (lo ≤ n ∧ n ≤ hi)) := by
  unfold impl_within.f
  by_cases h : lo ≤ n
  · rw [if_pos h]; simp [h]
  · rw [if_neg h]; simp [h]
end Go.Proofs.Ytjkgjmaldbmgmaa.P
end
section
namespace Go.Proofs.Ytjkgjmaldbmgmaa.Pure
open Go.RowKit Go.Proofs.Ytjkgjmaldbmgmaa.P Go.Proofs.YtjkgjmaldbmgmaaW.PrintWords Go.Proofs.YtjkgjmaldbmgmaaW.PrintLast Go.Proofs.YtjkgjmaldbmgmaaW.PrintMore
set_option linter.unusedVariables false
set_option linter.unusedSimpArgs false
theorem l01In_f (n lo hi : Int) : spec_l01In.f n lo hi = some (decide (lo ≤ n ∧ n ≤ hi)) := by
  unfold spec_l01In.f
  by_cases h : n ≥ lo
  · rw [if_pos h]; simp [show lo ≤ n from h]
  · rw [if_neg h]; simp [show ¬ lo ≤ n from h]
end Go.Proofs.Ytjkgjmaldbmgmaa.Pure
end
section
namespace Go.Proofs.Ytjkgjmaldbmgmaa.Pure
open Go.RowKit Go.Proofs.Ytjkgjmaldbmgmaa.P Go.Proofs.YtjkgjmaldbmgmaaW.PrintWords Go.Proofs.YtjkgjmaldbmgmaaW.PrintLast Go.Proofs.YtjkgjmaldbmgmaaW.PrintMore
set_option linter.unusedVariables false
set_option linter.unusedSimpArgs false
def jobOk (L P D : List Int) (i : Nat) : Bool := decide (1 ≤ rd P i ∧ rd P i ≤ 60) && (decide (1 ≤ rd L i ∧ rd L i ≤ 20) && decide (1 ≤ rd D i ∧ rd D i ≤ rd P i))
def isJobs (L P D : List Int) : Bool := decide (1 ≤ (L.length : Int) ∧ (L.length : Int) ≤ 8) && (decide (P.length = L.length ∧ D.length = L.length) && (List.range' 0 L.length).all (jobOk L P D))
theorem isJobs_len {L P D : List Int} (h : isJobs L P D = true) : 1 ≤ L.length ∧ L.length ≤ 8 ∧ P.length = L.length ∧ D.length = L.length := by
  simp only [isJobs, Bool.and_eq_true, decide_eq_true_iff] at h
  omega
theorem isJobs_at {L P D : List Int} (h : isJobs L P D = true) {i : Nat} (hi : i < L.length) : (1 ≤ rd P i ∧ rd P i ≤ 60) ∧ (1 ≤ rd L i ∧ rd L i ≤ 20) ∧ (1 ≤ rd D i ∧ rd D i ≤ rd P i) := by
  simp only [isJobs, Bool.and_eq_true, List.all_eq_true] at h
  have h1 := h.2.2 i (by simp; omega)
  simp only [jobOk, Bool.and_eq_true, decide_eq_true_iff] at h1
  exact h1
theorem l04Is_l0 (L P D : List Int) (hl : L.length ≤ 8) (hP : P.length = L.length) (hD : D.length = L.length) : ∀ d n : Nat, n + d = L.length →
    Ev (fun k => spec_l04Is.l0 k (L.length : Int) (n : Int) L P D) ((List.range' n d).all (jobOk L P D)) := by
  intro d
  induction d with
  | zero =>
    intro n hn
    refine Ev.step (fun k => by rw [spec_l04Is.l0]) ?_
    exact ev_neg (by omega) (ev_now true)
  | succ d ih =>
    intro n hn
    refine Ev.step (fun k => by rw [spec_l04Is.l0]) ?_
    refine ev_pos (by omega) (ev_pos (by omega) (ev_pos (by omega) (ev_fix (l01In_f _ _ _) ?_)))
    rw [List.range'_succ, List.all_cons, jobOk]
    cases h1 : decide (1 ≤ rd L n ∧ rd L n ≤ 20) with
    | false => exact ev_neg (by simp) (ev_is (by simp))
    | true =>
      refine ev_pos rfl (ev_pos (by omega) (ev_fix (l01In_f _ _ _) ?_))
      cases h2 : decide (1 ≤ rd P n ∧ rd P n ≤ 60) with
      | false => exact ev_neg (by simp) (ev_is (by simp))
      | true =>
        refine ev_pos rfl (ev_pos (by omega) (ev_fix (l01In_f _ _ _) ?_))
        cases h3 : decide (1 ≤ rd D n ∧ rd D n ≤ rd P n) with
        | false => exact ev_neg (by simp) (ev_is (by simp))
        | true =>
          refine ev_pos rfl ?_
          rw [wrap_succ (by omega)]
          simpa using ih (n + 1) (by omega)
theorem l04Is_ev (L P D : List Int) : Ev (fun k => spec_l04Is.f k L P D) (isJobs L P D) := by
  unfold spec_l04Is.f isJobs
  have hno : Ev (fun k => spec_l04Is.j0 k (L.length : Int) true L P D) false := by
    refine Ev.step (fun k => by rw [spec_l04Is.j0]) ?_
    exact ev_pos rfl (ev_now _)
  by_cases h1 : (L.length : Int) < 1
  · refine ev_pos h1 ?_
    rw [decide_eq_false (by omega), Bool.false_and]
    exact hno
  · refine ev_neg h1 ?_
    by_cases h8 : (L.length : Int) > 8
    · refine ev_pos h8 ?_
      rw [decide_eq_false (by omega), Bool.false_and]
      exact hno
    · refine ev_neg h8 ?_
      rw [decide_eq_true (show 1 ≤ (L.length : Int) ∧ (L.length : Int) ≤ 8 by omega), Bool.true_and]
      by_cases hP : (P.length : Int) = (L.length : Int)
      · refine ev_pos hP ?_
        by_cases hD : (D.length : Int) = (L.length : Int)
        · rw [hD, bne_self_eq_false, decide_eq_true (show P.length = L.length ∧ D.length = L.length by omega), Bool.true_and]
          refine Ev.step (fun k => by rw [spec_l04Is.j0]) ?_
          exact ev_neg (by simp) (l04Is_l0 L P D (by omega) (by omega) (by omega) L.length 0 (by omega))
        · rw [bne_iff_ne.2 hD, decide_eq_false (show ¬ (P.length = L.length ∧ D.length = L.length) by omega), Bool.false_and]
          exact hno
      · refine ev_neg hP ?_
        rw [decide_eq_false (show ¬ (P.length = L.length ∧ D.length = L.length) by omega), Bool.false_and]
        exact hno
theorem AreJobs_l0 (L P D : List Int) (hl : L.length ≤ 8) (hP : P.length = L.length) (hD : D.length = L.length) : ∀ d n : Nat, n + d = L.length →
    Ev (fun k => impl_AreJobs.l0 k P (P.length : Int) (n : Int) L P D) ((List.range' n d).all (jobOk L P D)) := by
  intro d
  induction d with
  | zero =>
    intro n hn
    refine Ev.step (fun k => by rw [impl_AreJobs.l0]) ?_
    exact ev_neg (by omega) (ev_now true)
  | succ d ih =>
    intro n hn
    refine Ev.step (fun k => by rw [impl_AreJobs.l0]) ?_
    refine ev_pos (by omega) (ev_pos (by omega) (ev_pos (by omega) (ev_fix (within_f _ _ _) ?_)))
    rw [List.range'_succ, List.all_cons, jobOk]
    cases h2 : decide (1 ≤ rd P n ∧ rd P n ≤ 60) with
    | false => exact ev_neg (by simp) (ev_is (by simp))
    | true =>
      refine ev_pos rfl (ev_pos (by omega) (ev_fix (within_f _ _ _) ?_))
      cases h1 : decide (1 ≤ rd L n ∧ rd L n ≤ 20) with
      | false => exact ev_neg (by simp) (ev_is (by simp))
      | true =>
        refine ev_pos rfl (ev_pos (by omega) (ev_fix (within_f _ _ _) ?_))
        cases h3 : decide (1 ≤ rd D n ∧ rd D n ≤ rd P n) with
        | false => exact ev_neg (by simp) (ev_is (by simp))
        | true =>
          refine ev_pos rfl ?_
          rw [wrap_succ (by omega)]
          simpa using ih (n + 1) (by omega)
theorem AreJobs_ev (L P D : List Int) : Ev (fun k => impl_AreJobs.f k L P D) (isJobs L P D) := by
  unfold impl_AreJobs.f isJobs
  have hno : Ev (fun k => impl_AreJobs.j0 k true L P D) false := by
    refine Ev.step (fun k => by rw [impl_AreJobs.j0]) ?_
    exact ev_pos rfl (ev_now _)
  refine ev_fix (show impl_Jobs_many.f L P D = some (L.length : Int) from rfl) (ev_fix (within_f _ _ _) ?_)
  cases h1 : decide (1 ≤ (L.length : Int) ∧ (L.length : Int) ≤ 8) with
  | false => exact ev_neg (by simp) (by rw [Bool.false_and]; exact hno)
  | true =>
    have h2 := of_decide_eq_true h1
    refine ev_pos rfl ?_
    rw [Bool.true_and]
    by_cases hP : (P.length : Int) = (L.length : Int)
    · refine ev_pos hP ?_
      by_cases hD : (D.length : Int) = (L.length : Int)
      · rw [hD, bne_self_eq_false, decide_eq_true (show P.length = L.length ∧ D.length = L.length by omega), Bool.true_and]
        refine Ev.step (fun k => by rw [impl_AreJobs.j0]) ?_
        refine ev_neg (by simp) ?_
        exact AreJobs_l0 L P D (by omega) (by omega) (by omega) L.length 0 (by omega)
      · rw [bne_iff_ne.2 hD, decide_eq_false (show ¬ (P.length = L.length ∧ D.length = L.length) by omega), Bool.false_and]
        exact hno
    · refine ev_neg hP ?_
      rw [decide_eq_false (show ¬ (P.length = L.length ∧ D.length = L.length) by omega), Bool.false_and]
      exact hno
end Go.Proofs.Ytjkgjmaldbmgmaa.Pure
end
section
namespace Go.Proofs.Ytjkgjmaldbmgmaa.Pure
open Go.RowKit Go.Proofs.Ytjkgjmaldbmgmaa.P Go.Proofs.YtjkgjmaldbmgmaaW.PrintWords Go.Proofs.YtjkgjmaldbmgmaaW.PrintLast Go.Proofs.YtjkgjmaldbmgmaaW.PrintMore
set_option linter.unusedVariables false
set_option linter.unusedSimpArgs false
/-- what the job i asks up to n slots -/
def dem1 (L P D : List Int) (n : Int) (i : Nat) : Int := if n ≥ rd D i then rd L i * (Int.tdiv (n - rd D i) (rd P i) + 1) else 0
def demTo (L P D : List Int) (n : Int) : Nat → Int
  | 0 => 0
  | i + 1 => demTo L P D n i + dem1 L P D n i
theorem tdiv_bounds {a b : Int} (ha : 0 ≤ a) (hb : 1 ≤ b) : 0 ≤ Int.tdiv a b ∧ Int.tdiv a b ≤ a := by
  rw [Int.tdiv_eq_ediv_of_nonneg ha]
  exact ⟨Int.ediv_nonneg ha (by omega), Int.ediv_le_self _ ha⟩
theorem mul_bounds {a b A B : Int} (ha : 0 ≤ a ∧ a ≤ A) (hb : 0 ≤ b ∧ b ≤ B) : 0 ≤ a * b ∧ a * b ≤ A * B := by
  refine ⟨Int.mul_nonneg ha.1 hb.1, ?_⟩
  exact Int.le_trans (Int.mul_le_mul_of_nonneg_right ha.2 hb.1) (Int.mul_le_mul_of_nonneg_left hb.2 (by omega))
theorem dem1_bounds {L P D : List Int} (h : isJobs L P D = true) {n : Int} (hn : 0 ≤ n ∧ n ≤ 1000) {i : Nat} (hi : i < L.length) : 0 ≤ dem1 L P D n i ∧ dem1 L P D n i ≤ 20020 := by
  have h1 := isJobs_at h hi
  unfold dem1
  split
  · have h2 := tdiv_bounds (a := n - rd D i) (b := rd P i) (by omega) (by omega)
    have h3 := mul_bounds (a := rd L i) (b := Int.tdiv (n - rd D i) (rd P i) + 1) (A := 20) (B := 1001) (by omega) (by omega)
    omega
  · omega
theorem demTo_bounds {L P D : List Int} (h : isJobs L P D = true) {n : Int} (hn : 0 ≤ n ∧ n ≤ 1000) : ∀ i : Nat, i ≤ L.length → 0 ≤ demTo L P D n i ∧ demTo L P D n i ≤ 20020 * i := by
  intro i
  induction i with
  | zero => intro _; simp [demTo]
  | succ i ih =>
    intro hi
    have h1 := ih (by omega)
    have h2 := dem1_bounds h hn (i := i) (by omega)
    rw [demTo]
    omega
theorem demand_l0 (L P D : List Int) (h : isJobs L P D = true) (n : Int) (hn : 0 ≤ n ∧ n ≤ 1000) : ∀ d i : Nat, i + d = L.length →
    Ev (fun k => impl_Jobs_demand.l0 k n (demTo L P D n i) D (D.length : Int) (i : Int) L P D) (demTo L P D n L.length) := by
  have hlen := isJobs_len h
  intro d
  induction d with
  | zero =>
    intro i hi
    obtain rfl : i = L.length := by omega
    refine Ev.step (fun k => by rw [impl_Jobs_demand.l0]) ?_
    exact ev_neg (by omega) (ev_now _)
  | succ d ih =>
    intro i hi
    have h1 := isJobs_at h (i := i) (by omega)
    have h2 := demTo_bounds h hn i (by omega)
    have hih := ih (i + 1) (by omega)
    rw [demTo] at hih
    refine Ev.step (fun k => by rw [impl_Jobs_demand.l0]) ?_
    refine ev_pos (by omega) (ev_pos (by omega) (ev_pos (by omega) ?_))
    rw [wrap_succ (by omega)]
    unfold dem1 at hih
    by_cases hd : n ≥ rd D i
    · rw [if_pos hd] at hih
      have h3 := tdiv_bounds (a := n - rd D i) (b := rd P i) (by omega) (by omega)
      have h4 := mul_bounds (a := rd L i) (b := Int.tdiv (n - rd D i) (rd P i) + 1) (A := 20) (B := 1001) (by omega) (by omega)
      refine ev_pos hd (ev_pos (by omega) (ev_pos (by omega) (ev_neg (by omega) ?_)))
      rw [wrap_id (x := n - rd D i) (by omega) (by omega), wrap_id (x := Int.tdiv (n - rd D i) (rd P i)) (by omega) (by omega), wrap_id (x := Int.tdiv (n - rd D i) (rd P i) + 1) (by omega) (by omega), wrap_id (x := rd L i * (Int.tdiv (n - rd D i) (rd P i) + 1)) (by omega) (by omega), wrap_id (by omega) (by omega)]
      exact hih
    · rw [if_neg hd, Int.add_zero] at hih
      exact ev_neg hd hih
theorem demand_ev (L P D : List Int) (h : isJobs L P D = true) (n : Int) (hn : 0 ≤ n ∧ n ≤ 1000) : Ev (fun k => impl_Jobs_demand.f k L P D n) (demTo L P D n L.length) := by
  unfold impl_Jobs_demand.f
  exact demand_l0 L P D h n hn L.length 0 (by omega)
end Go.Proofs.Ytjkgjmaldbmgmaa.Pure
end
section
namespace Go.Proofs.Ytjkgjmaldbmgmaa.Pure
open Go.RowKit Go.Proofs.Ytjkgjmaldbmgmaa.P Go.Proofs.YtjkgjmaldbmgmaaW.PrintWords Go.Proofs.YtjkgjmaldbmgmaaW.PrintLast Go.Proofs.YtjkgjmaldbmgmaaW.PrintMore
set_option linter.unusedVariables false
set_option linter.unusedSimpArgs false
theorem toInt64S_l0 (l : List Int) (hl : l.length ≤ 9223372036854775807) : ∀ d n : Nat, n + d = l.length → Ev (fun k => laws_toInt64S.l0 k l (l.take n ++ List.replicate d 0) (n : Int)) l := by
  intro d
  induction d with
  | zero =>
    intro n hn
    refine Ev.step (fun k => by rw [laws_toInt64S.l0]) ?_
    refine ev_neg (by omega) ?_
    rw [List.take_of_length_le (by omega), List.replicate_zero, List.append_nil]
    exact ev_now l
  | succ d ih =>
    intro n hn
    have hlt : n < l.length := by omega
    refine Ev.step (fun k => by rw [laws_toInt64S.l0]) ?_
    refine ev_pos (by omega) (ev_pos (by omega) (ev_pos ?_ ?_))
    · rw [List.length_append, List.length_take, List.length_replicate]; omega
    · rw [wrap_succ (by omega), rd_nat hlt, Int.toNat_natCast]
      have e : (l.take n ++ List.replicate (d + 1) 0).set n l[n] = l.take (n + 1) ++ List.replicate d 0 := by
        rw [List.set_append_right _ _ (by rw [List.length_take]; omega), List.length_take, Nat.min_eq_left (by omega), Nat.sub_self, List.replicate_succ, List.set_cons_zero, List.take_succ_eq_append_getElem hlt, List.append_assoc]
        rfl
      rw [e]
      exact ih (n + 1) (by omega)
/-- toInt64S hands back the list. -/
theorem toInt64S_ev (l : List Int) (hl : l.length ≤ 35184372088832) : Ev (fun k => laws_toInt64S.f k l) l := by
  unfold laws_toInt64S.f
  refine ev_pos (by omega) (ev_pos (by omega) ?_)
  rw [Int.toNat_natCast]
  exact toInt64S_l0 l (by omega) l.length 0 (by omega)
theorem eqInt64S_l0 (l : List Int) (hl : l.length ≤ 9223372036854775807) : ∀ d n : Nat, n + d = l.length → Ev (fun k => laws_eqInt64S.l0 k l l (n : Int)) true := by
  intro d
  induction d with
  | zero =>
    intro n hn
    refine Ev.step (fun k => by rw [laws_eqInt64S.l0]) ?_
    exact ev_neg (by omega) (ev_now true)
  | succ d ih =>
    intro n hn
    refine Ev.step (fun k => by rw [laws_eqInt64S.l0]) ?_
    refine ev_pos (by omega) (ev_pos (by omega) (ev_pos (by omega) (ev_pos rfl ?_)))
    rw [wrap_succ (by omega)]
    exact ih (n + 1) (by omega)
/-- eqInt64S says that a list is itself. -/
theorem eqInt64S_ev (l : List Int) (hl : l.length ≤ 9223372036854775807) : Ev (fun k => laws_eqInt64S.f k l l) true := by
  unfold laws_eqInt64S.f
  exact ev_pos rfl (eqInt64S_l0 l hl l.length 0 (by omega))
end Go.Proofs.Ytjkgjmaldbmgmaa.Pure
end
section
namespace Go.Proofs.Ytjkgjmaldbmgmaa.Pure
open Go.RowKit Go.Proofs.Ytjkgjmaldbmgmaa.P Go.Proofs.YtjkgjmaldbmgmaaW.PrintWords Go.Proofs.YtjkgjmaldbmgmaaW.PrintLast Go.Proofs.YtjkgjmaldbmgmaaW.PrintMore
set_option linter.unusedVariables false
set_option linter.unusedSimpArgs false
theorem szInt64S_f (l : List Int) (a : Int) (hl : l.length ≤ maxLen) (ha : 0 ≤ a ∧ a ≤ 1048576) : ∃ r, laws_szInt64S.f l a = some r ∧ (r < 0 ∨ (0 ≤ r ∧ r ≤ a ∧ (l.length : Int) ≤ a)) := by
  unfold laws_szInt64S.f
  unfold maxLen at hl
  rw [wrap_id (by omega) (by omega)]
  by_cases h : a - (l.length : Int) < 0
  · exact ⟨-1, by rw [if_pos h], .inl (by omega)⟩
  · exact ⟨a - l.length, by rw [if_neg h], .inr (by omega)⟩
end Go.Proofs.Ytjkgjmaldbmgmaa.Pure
end
section
namespace Go.Proofs.Ytjkgjmaldbmgmaa.Pure
open Go.RowKit Go.Proofs.Ytjkgjmaldbmgmaa.P Go.Proofs.YtjkgjmaldbmgmaaW.PrintWords Go.Proofs.YtjkgjmaldbmgmaaW.PrintLast Go.Proofs.YtjkgjmaldbmgmaaW.PrintMore
set_option linter.unusedVariables false
set_option linter.unusedSimpArgs false
theorem szJobs_f (L P D : List Int) (hL : L.length ≤ maxLen) (hP : P.length ≤ maxLen) (hD : D.length ≤ maxLen) :
    ∃ r, laws_szJobs.f L P D 1048576 = some r ∧ (r < 0 ∨ (0 ≤ r ∧ L.length ≤ 1048576 ∧ P.length ≤ 1048576 ∧ D.length ≤ 1048576)) := by
  unfold laws_szJobs.f
  obtain ⟨r1, e1, h1⟩ := szInt64S_f L 1048576 hL (by omega)
  rw [e1, Option.bind_some]
  rcases h1 with h1 | h1
  · exact ⟨-1, by rw [if_pos h1], .inl (by omega)⟩
  · rw [if_neg (by omega)]
    obtain ⟨r2, e2, h2⟩ := szInt64S_f P r1 hP (by omega)
    rw [e2, Option.bind_some]
    rcases h2 with h2 | h2
    · exact ⟨-1, by rw [if_pos h2], .inl (by omega)⟩
    · rw [if_neg (by omega)]
      obtain ⟨r3, e3, h3⟩ := szInt64S_f D r2 hD (by omega)
      rw [e3, Option.bind_some]
      rcases h3 with h3 | h3
      · exact ⟨-1, by rw [if_pos h3], .inl (by omega)⟩
      · exact ⟨r3, by rw [if_neg (by omega)], .inr (by omega)⟩
theorem toJobs_ev (L P D : List Int) (hL : L.length ≤ 1048576) (hP : P.length ≤ 1048576) (hD : D.length ≤ 1048576) : Ev (fun k => laws_toJobs.f k L P D) (L, P, D) := by
  unfold laws_toJobs.f
  exact ev_bind (toInt64S_ev L (by omega)) (ev_bind (toInt64S_ev P (by omega)) (ev_bind (toInt64S_ev D (by omega)) (ev_now _)))
theorem eqJobs_ev (L P D : List Int) (hL : L.length ≤ 1048576) (hP : P.length ≤ 1048576) (hD : D.length ≤ 1048576) : Ev (fun k => laws_eqJobs.f k L P D L P D) true := by
  unfold laws_eqJobs.f
  exact ev_bind (eqInt64S_ev L (by omega)) (ev_pos rfl (ev_bind (eqInt64S_ev P (by omega)) (ev_pos rfl (ev_bind (eqInt64S_ev D (by omega)) (ev_pos rfl (ev_now _))))))
end Go.Proofs.Ytjkgjmaldbmgmaa.Pure
end
section
namespace Go.Proofs.Ytjkgjmaldbmgmaa.Pure
open Go.RowKit Go.Proofs.Ytjkgjmaldbmgmaa.P Go.Proofs.YtjkgjmaldbmgmaaW.PrintWords Go.Proofs.YtjkgjmaldbmgmaaW.PrintLast Go.Proofs.YtjkgjmaldbmgmaaW.PrintMore
set_option linter.unusedVariables false
set_option linter.unusedSimpArgs false
theorem tdiv_nat (m n : Nat) : Int.tdiv (m : Int) (n : Int) = ((m / n : Nat) : Int) := rfl
theorem tmod_nat' (m n : Nat) : Int.tmod (m : Int) (n : Int) = ((m % n : Nat) : Int) := rfl
theorem gcd_step (a b : Nat) (h : b ≠ 0) : Nat.gcd a b = Nat.gcd b (a % b) := by
  rw [Nat.gcd_comm a b, Nat.gcd_rec b a, Nat.gcd_comm]
theorem divisor_l0 : ∀ (b a : Nat), Ev (fun k => impl_divisor.l0 k (a : Int) (b : Int)) ((Nat.gcd a b : Nat) : Int) := by
  intro b
  induction b using Nat.strongRecOn with
  | _ b ih =>
    intro a
    refine Ev.step (fun k => by rw [impl_divisor.l0]) ?_
    by_cases h : b = 0
    · subst h
      refine ev_pos rfl ?_
      rw [Nat.gcd_zero_right]
      exact ev_now _
    · refine ev_neg (by omega) ?_
      rw [tmod_nat', gcd_step a b h]
      exact ih (a % b) (Nat.mod_lt _ (by omega)) b
theorem divisor_ev (a b : Nat) : Ev (fun k => impl_divisor.f k (a : Int) (b : Int)) ((Nat.gcd a b : Nat) : Int) := by
  unfold impl_divisor.f
  exact divisor_l0 b a
theorem l01Gcd_l0 : ∀ (b a : Nat), Ev (fun k => spec_l01Gcd.l0 k (a : Int) (b : Int)) ((Nat.gcd a b : Nat) : Int) := by
  intro b
  induction b using Nat.strongRecOn with
  | _ b ih =>
    intro a
    refine Ev.step (fun k => by rw [spec_l01Gcd.l0]) ?_
    by_cases h : b = 0
    · subst h
      refine ev_pos rfl ?_
      rw [Nat.gcd_zero_right]
      exact ev_now _
    · refine ev_neg (by omega) ?_
      rw [tmod_nat', gcd_step a b h]
      exact ih (a % b) (Nat.mod_lt _ (by omega)) b
theorem l01Gcd_ev (a b : Nat) : Ev (fun k => spec_l01Gcd.f k (a : Int) (b : Int)) ((Nat.gcd a b : Nat) : Int) := by
  unfold spec_l01Gcd.f
  exact l01Gcd_l0 b a
theorem lcm_div (a b : Nat) : a / Nat.gcd a b * b = Nat.lcm a b := by
  rw [Nat.lcm, Nat.mul_comm a b, Nat.mul_div_assoc _ (Nat.gcd_dvd_left a b), Nat.mul_comm]
theorem lcm_le (a b : Nat) : Nat.lcm a b ≤ a * b := by
  rw [← lcm_div]; exact Nat.mul_le_mul_right _ (Nat.div_le_self _ _)
theorem lcm_ge {a b : Nat} (ha : 0 < a) (hb : 0 < b) : a ≤ Nat.lcm a b := Nat.le_of_dvd (Nat.lcm_pos ha hb) (Nat.dvd_lcm_left a b)
theorem l01Lcm_ev (a b : Nat) (ha : 0 < a) (h : a * b ≤ 9223372036854775807) : Ev (fun k => spec_l01Lcm.f k (a : Int) (b : Int)) ((Nat.lcm a b : Nat) : Int) := by
  unfold spec_l01Lcm.f
  have hg : 0 < Nat.gcd a b := Nat.gcd_pos_of_pos_left _ ha
  refine ev_bind (l01Gcd_ev a b) (ev_neg (by omega) (ev_is ?_))
  have h0 : b = 0 ∨ a ≤ a * b := by
    rcases Nat.eq_zero_or_pos b with h0 | h0
    · exact .inl h0
    · exact .inr (Nat.le_mul_of_pos_right _ h0)
  have h1 := Nat.div_le_self a (Nat.gcd a b)
  have h2 := lcm_le a b
  rw [tdiv_nat]
  rcases h0 with h0 | h0
  · subst h0
    rw [Int.natCast_zero, Int.mul_zero, Nat.lcm_zero_right]
    decide +kernel
  · rw [wrap_nat (Nat.le_trans h1 (Nat.le_trans h0 h)), ← Int.natCast_mul, lcm_div, wrap_nat (Nat.le_trans h2 h)]
end Go.Proofs.Ytjkgjmaldbmgmaa.Pure
end
section
namespace Go.Proofs.Ytjkgjmaldbmgmaa.Pure
open Go.RowKit Go.Proofs.Ytjkgjmaldbmgmaa.P Go.Proofs.YtjkgjmaldbmgmaaW.PrintWords Go.Proofs.YtjkgjmaldbmgmaaW.PrintLast Go.Proofs.YtjkgjmaldbmgmaaW.PrintMore
set_option linter.unusedVariables false
set_option linter.unusedSimpArgs false
/-- the least common multiple of a and the numbers of a list -/
def lcmN : Nat → List Int → Nat
  | a, [] => a
  | a, g :: l => lcmN (Nat.lcm a g.toNat) l
theorem lcmN_append (a : Nat) (l m : List Int) : lcmN a (l ++ m) = lcmN (lcmN a l) m := by
  induction l generalizing a with
  | nil => rfl
  | cons g l ih => simp only [List.cons_append, lcmN, ih]
theorem lcmN_take_succ (a : Nat) (l : List Int) (n : Nat) (h : n < l.length) : lcmN a (l.take (n + 1)) = Nat.lcm (lcmN a (l.take n)) (l[n]).toNat := by
  rw [List.take_succ_eq_append_getElem h, lcmN_append]; rfl
theorem lcmN_pos (a : Nat) (ha : 0 < a) (l : List Int) (h : ∀ x ∈ l, 1 ≤ x) : 0 < lcmN a l := by
  induction l generalizing a with
  | nil => exact ha
  | cons g l ih =>
    have := h g List.mem_cons_self
    exact ih _ (Nat.lcm_pos ha (by omega)) (fun x hx => h x (List.mem_cons_of_mem _ hx))
theorem lcmN_le (l : List Int) (h : ∀ x ∈ l, 1 ≤ x ∧ x ≤ 60) : ∀ a, lcmN a l ≤ a * 60 ^ l.length := by
  induction l with
  | nil => intro a; simp [lcmN]
  | cons g l ih =>
    intro a
    have h1 := h g List.mem_cons_self
    have h2 := ih (fun x hx => h x (List.mem_cons_of_mem _ hx)) (Nat.lcm a g.toNat)
    have h3 : Nat.lcm a g.toNat ≤ a * 60 := Nat.le_trans (lcm_le _ _) (Nat.mul_le_mul_left _ (by omega))
    refine Nat.le_trans h2 ?_
    rw [List.length_cons, Nat.pow_succ, Nat.mul_comm (60 ^ l.length) 60, ← Nat.mul_assoc]
    exact Nat.mul_le_mul_right _ h3
theorem lcmN_le8 {l : List Int} (h : ∀ x ∈ l, 1 ≤ x ∧ x ≤ 60) (hl : l.length ≤ 8) : lcmN 1 l ≤ 167961600000000 := by
  have h1 := lcmN_le l h 1
  have h2 : 60 ^ l.length ≤ 60 ^ 8 := Nat.pow_le_pow_right (by omega) hl
  omega
theorem lcmN_mono (a : Nat) (ha : 0 < a) (l : List Int) (h : ∀ x ∈ l, 1 ≤ x) : a ≤ lcmN a l := by
  induction l generalizing a with
  | nil => exact Nat.le_refl _
  | cons g l ih =>
    have := h g List.mem_cons_self
    refine Nat.le_trans (lcm_ge ha (show 0 < g.toNat by omega)) ?_
    exact ih _ (Nat.lcm_pos ha (by omega)) (fun x hx => h x (List.mem_cons_of_mem _ hx))
theorem dvd_lcmN_self (a : Nat) (l : List Int) : a ∣ lcmN a l := by
  induction l generalizing a with
  | nil => exact Nat.dvd_refl _
  | cons g l ih => exact Nat.dvd_trans (Nat.dvd_lcm_left _ _) (ih _)
theorem dvd_lcmN (a : Nat) (l : List Int) (x : Int) (hx : x ∈ l) : x.toNat ∣ lcmN a l := by
  induction l generalizing a with
  | nil => cases hx
  | cons g l ih =>
    rcases List.mem_cons.1 hx with rfl | hx
    · exact Nat.dvd_trans (Nat.dvd_lcm_right _ _) (dvd_lcmN_self _ _)
    · exact ih _ hx
theorem multiple_l0 (l : List Int) (hl : l.length ≤ 8) (h : ∀ x ∈ l, 1 ≤ x ∧ x ≤ 60) : ∀ d n : Nat, n + d = l.length →
    Ev (fun k => impl_Tasks_multiple.l0 k ((lcmN 1 (l.take n) : Nat) : Int) l (l.length : Int) (n : Int)) ((lcmN 1 l : Nat) : Int) := by
  intro d
  induction d with
  | zero =>
    intro n hn
    rw [List.take_of_length_le (by omega)]
    refine Ev.step (fun k => by rw [impl_Tasks_multiple.l0]) ?_
    exact ev_neg (by omega) (ev_now _)
  | succ d ih =>
    intro n hn
    have hlt : n < l.length := by omega
    have hx := h _ (List.getElem_mem hlt)
    have hm : ∀ x ∈ l.take n, 1 ≤ x ∧ x ≤ 60 := fun x hx => h x (List.mem_of_mem_take hx)
    have hp := lcmN_pos 1 (by omega) (l.take n) (fun x hx => (hm x hx).1)
    have hb := lcmN_le8 hm (by rw [List.length_take]; omega)
    have hih := ih (n + 1) (by omega)
    rw [lcmN_take_succ _ _ _ hlt] at hih
    generalize lcmN 1 (l.take n) = a at hp hb hih ⊢
    obtain ⟨g, hg⟩ : ∃ g : Nat, l[n] = (g : Int) := ⟨(l[n]).toNat, by omega⟩
    rw [hg, Int.toNat_natCast] at hih
    rw [hg] at hx
    have hgp : 0 < Nat.gcd a g := Nat.gcd_pos_of_pos_left _ hp
    have h1 := Nat.div_le_self a (Nat.gcd a g)
    have h2 : Nat.lcm a g ≤ a * 60 := Nat.le_trans (lcm_le _ _) (Nat.mul_le_mul_left _ (by omega))
    refine Ev.step (fun k => by rw [impl_Tasks_multiple.l0]) ?_
    refine ev_pos (by omega) (ev_pos (by omega) (ev_pos (by omega) ?_))
    rw [rd_nat hlt, hg]
    refine ev_bind (divisor_ev a g) (ev_neg (by omega) ?_)
    rw [tdiv_nat, wrap_nat (Nat.le_trans h1 (by omega)), ← Int.natCast_mul, lcm_div, wrap_nat (Nat.le_trans h2 (by omega)), wrap_succ (by omega)]
    exact hih
theorem multiple_ev (l : List Int) (hl : l.length ≤ 8) (h : ∀ x ∈ l, 1 ≤ x ∧ x ≤ 60) : Ev (fun k => impl_Tasks_multiple.f k l) ((lcmN 1 l : Nat) : Int) := by
  unfold impl_Tasks_multiple.f
  exact multiple_l0 l hl h l.length 0 (by omega)
end Go.Proofs.Ytjkgjmaldbmgmaa.Pure
end
section
namespace Go.Proofs.Ytjkgjmaldbmgmaa.P
open Go.RowKit Go.Proofs.YtjkgjmaldbmgmaaW.PrintWords Go.Proofs.YtjkgjmaldbmgmaaW.PrintLast Go.Proofs.YtjkgjmaldbmgmaaW.PrintMore
attribute [local go_sem] max2_int min2_int max_two min_two max_three min_three max_four min_four   -- for this text's walks alone
set_option linter.unusedVariables false
set_option linter.unusedSimpArgs false
def spec_l01Lowest.f (k : Nat) (a0 : Int) (a1 : Int) : Option (Int × Int) := (spec_l01Gcd.f k a0 a1).bind fun t101 => (if t101 = 0 then (none) else (some (wrap64 (Int.tdiv a0 t101), wrap64 (Int.tdiv a1 t101))))
theorem spec_l01Lowest.mono : ∀ a0 a1 k, LeO (spec_l01Lowest.f k a0 a1) (spec_l01Lowest.f (k + 1) a0 a1) := by
  intro a0 a1 k
  unfold spec_l01Lowest.f
  repeat' first
      | (with_reducible exact spec_l01Gcd.mono _ _ _)
      | (with_reducible exact LeO.refl _)
      | (with_reducible exact LeO.none _)
      | (with_reducible refine LeO.ite ?_ ?_)
      | (with_reducible refine LeO.bind ?_ (fun _ => ?_))
      | exact spec_l01Gcd.mono _ _ _
      | exact LeO.none _
      | refine LeO.ite ?_ ?_
      | refine LeO.bind ?_ (fun _ => ?_)
end Go.Proofs.Ytjkgjmaldbmgmaa.P
end
section
namespace Go.Proofs.Ytjkgjmaldbmgmaa.Pure
open Go.RowKit Go.Proofs.Ytjkgjmaldbmgmaa.P Go.Proofs.YtjkgjmaldbmgmaaW.PrintWords Go.Proofs.YtjkgjmaldbmgmaaW.PrintLast Go.Proofs.YtjkgjmaldbmgmaaW.PrintMore
set_option linter.unusedVariables false
set_option linter.unusedSimpArgs false
theorem isJobs_P {L P D : List Int} (h : isJobs L P D = true) : ∀ x ∈ P, 1 ≤ x ∧ x ≤ 60 := by
  intro x hx
  obtain ⟨i, hi, rfl⟩ := List.mem_iff_getElem.1 hx
  have hl := isJobs_len h
  have h1 := (isJobs_at h (i := i) (by omega)).1
  rwa [rd_nat hi] at h1
theorem whole_ev (L P D : List Int) (h : isJobs L P D = true) : Ev (fun k => impl_Jobs_whole.f k L P D) ((lcmN 1 P : Nat) : Int) := by
  unfold impl_Jobs_whole.f
  have hl := isJobs_len h
  exact ev_bind (multiple_ev P (by omega) (isJobs_P h)) (ev_now _)
/-- the reference's: it stops where it is greater than 240 -/
theorem l04Whole_l0 (L P D : List Int) (h : isJobs L P D = true) : ∀ d n : Nat, n + d = P.length →
    ∃ r : Nat, Ev (fun k => spec_l04Whole.l0 k ((lcmN 1 (P.take n) : Nat) : Int) (n : Int) L P D) (r : Int) ∧ (lcmN 1 P ≤ 240 → r = lcmN 1 P) ∧ (240 < lcmN 1 P → 240 < r) := by
  have hl := isJobs_len h
  have hP := isJobs_P h
  intro d
  induction d with
  | zero =>
    intro n hn
    rw [List.take_of_length_le (by omega)]
    refine ⟨lcmN 1 P, ?_, fun _ => rfl, fun h => h⟩
    refine Ev.step (fun k => by rw [spec_l04Whole.l0]) ?_
    exact ev_neg (by omega) (ev_now _)
  | succ d ih =>
    intro n hn
    have hlt : n < P.length := by omega
    have hx := hP _ (List.getElem_mem hlt)
    have hm : ∀ x ∈ P.take n, 1 ≤ x ∧ x ≤ 60 := fun x hx => hP x (List.mem_of_mem_take hx)
    have hp := lcmN_pos 1 (by omega) (P.take n) (fun x hx => (hm x hx).1)
    have hmono : lcmN 1 (P.take n) ≤ lcmN 1 P := by
      have e : P = P.take n ++ P.drop n := (List.take_append_drop n P).symm
      have : lcmN 1 P = lcmN (lcmN 1 (P.take n)) (P.drop n) := by rw [← lcmN_append, ← e]
      rw [this]
      exact lcmN_mono _ hp _ (fun x hx => (hP x (List.mem_of_mem_drop hx)).1)
    obtain ⟨r, hr, hr1, hr2⟩ := ih (n + 1) (by omega)
    rw [lcmN_take_succ _ _ _ hlt] at hr
    generalize lcmN 1 (P.take n) = a at hp hmono hr ⊢
    obtain ⟨g, hg⟩ : ∃ g : Nat, P[n] = (g : Int) := ⟨(P[n]).toNat, by omega⟩
    rw [hg, Int.toNat_natCast] at hr
    rw [hg] at hx
    by_cases ha : a ≤ 240
    · refine ⟨r, ?_, hr1, hr2⟩
      have hag : a * g ≤ 240 * 60 := Nat.mul_le_mul ha (by omega)
      refine Ev.step (fun k => by rw [spec_l04Whole.l0]) ?_
      refine ev_pos (by omega) (ev_pos (by omega) (ev_pos (by omega) ?_))
      rw [rd_nat hlt, hg]
      refine ev_bind (l01Lcm_ev a g hp (by omega)) ?_
      rw [wrap_succ (by omega)]
      exact hr
    · refine ⟨a, ?_, fun h => absurd h (by omega), fun _ => by omega⟩
      refine Ev.step (fun k => by rw [spec_l04Whole.l0]) ?_
      exact ev_pos (by omega) (ev_neg (by omega) (ev_now _))
theorem l04Whole_ev (L P D : List Int) (h : isJobs L P D = true) : ∃ r : Nat, Ev (fun k => spec_l04Whole.f k L P D) (r : Int) ∧ (lcmN 1 P ≤ 240 → r = lcmN 1 P) ∧ (240 < lcmN 1 P → 240 < r) := by
  unfold spec_l04Whole.f
  exact l04Whole_l0 L P D h P.length 0 (by omega)
/-- the code of jobs whose whole period has to be short -/
def shortCode (L P D : List Int) : Int := if isJobs L P D = true then (if lcmN 1 P ≤ 240 then 0 else 3) else 1
theorem l04Code_ev (L P D : List Int) : Ev (fun k => spec_l04Code.f k L P D) (shortCode L P D) := by
  unfold spec_l04Code.f shortCode
  refine ev_bind (l04Is_ev L P D) ?_
  cases h : isJobs L P D with
  | false => exact ev_neg (by simp) (ev_is (by simp))
  | true =>
    obtain ⟨r, hr, h1, h2⟩ := l04Whole_ev L P D h
    refine ev_pos rfl (ev_bind hr ?_)
    rw [if_pos rfl]
    by_cases hw : lcmN 1 P ≤ 240
    · have := h1 hw
      rw [if_pos hw]
      exact ev_neg (by omega) (ev_now _)
    · have := h2 (by omega)
      rw [if_neg hw]
      exact ev_pos (by omega) (ev_now _)
theorem jobsCode_short (L P D : List Int) : Ev (fun k => impl_jobsCode.f k L P D true true) (shortCode L P D) := by
  unfold impl_jobsCode.f shortCode
  refine ev_bind (AreJobs_ev L P D) ?_
  cases h : isJobs L P D with
  | false => exact ev_neg (by simp) (ev_is (by simp))
  | true =>
    refine ev_pos rfl (ev_pos rfl (ev_pos rfl (ev_bind (whole_ev L P D h) ?_)))
    rw [if_pos rfl]
    by_cases hw : lcmN 1 P ≤ 240
    · rw [if_pos hw]
      exact ev_neg (by omega) (ev_now _)
    · rw [if_neg hw]
      exact ev_pos (by omega) (ev_now _)
theorem shortCode_zero {L P D : List Int} (h : shortCode L P D = 0) : isJobs L P D = true ∧ lcmN 1 P ≤ 240 := by
  unfold shortCode at h
  by_cases h1 : isJobs L P D = true
  · rw [if_pos h1] at h
    by_cases h2 : lcmN 1 P ≤ 240
    · exact ⟨h1, h2⟩
    · rw [if_neg h2] at h; omega
  · rw [if_neg h1] at h; omega
end Go.Proofs.Ytjkgjmaldbmgmaa.Pure
end
section
namespace Go.Proofs.Ytjkgjmaldbmgmaa.Pure
open Go.RowKit Go.Proofs.Ytjkgjmaldbmgmaa.P Go.Proofs.YtjkgjmaldbmgmaaW.PrintWords Go.Proofs.YtjkgjmaldbmgmaaW.PrintLast Go.Proofs.YtjkgjmaldbmgmaaW.PrintMore
set_option linter.unusedVariables false
set_option linter.unusedSimpArgs false
def numTo (L P : List Int) (M : Nat) : Nat → Nat
  | 0 => 0
  | i + 1 => numTo L P M i + (rd L i).toNat * (M / (rd P i).toNat)
theorem numTo_le {L P D : List Int} (h : isJobs L P D = true) (M : Nat) : ∀ i : Nat, i ≤ L.length → numTo L P M i ≤ 20 * i * M := by
  intro i
  induction i with
  | zero => intro _; simp [numTo]
  | succ i ih =>
    intro hi
    have h1 := ih (by omega)
    have h2 := (isJobs_at h (i := i) (by omega)).2.1
    have h3 : (rd L i).toNat * (M / (rd P i).toNat) ≤ 20 * M := Nat.mul_le_mul (by omega) (Nat.div_le_self _ _)
    rw [numTo, Nat.mul_add, Nat.mul_one, Nat.add_mul]
    omega
theorem M_le {L P D : List Int} (h : isJobs L P D = true) : 0 < lcmN 1 P ∧ lcmN 1 P ≤ 167961600000000 := by
  have hl := isJobs_len h
  exact ⟨lcmN_pos 1 (by omega) P (fun x hx => (isJobs_P h x hx).1), lcmN_le8 (isJobs_P h) (by omega)⟩
/-- a state of the reference's loop: a fraction in lowest terms, of the value of the first jobs' load -/
structure LoadAt (L P : List Int) (i a b : Nat) : Prop where
  co : Nat.Coprime a b
  pos : 0 < b
  val : a * lcmN 1 P = b * numTo L P (lcmN 1 P) i
theorem LoadAt.next {L P D : List Int} {i a b : Nat} (h : isJobs L P D = true) (hi : i < L.length) (s : LoadAt L P i a b) {l p : Nat} (hl : rd L i = (l : Int)) (hp : rd P i = (p : Int)) :
    0 < Nat.gcd (a * p + l * b) (b * p) ∧ LoadAt L P (i + 1) ((a * p + l * b) / Nat.gcd (a * p + l * b) (b * p)) ((b * p) / Nat.gcd (a * p + l * b) (b * p)) := by
  have hat := isJobs_at h hi
  have hlen := isJobs_len h
  have hp0 : 0 < p := by omega
  have hbp : 0 < b * p := Nat.mul_pos s.pos hp0
  have hg : 0 < Nat.gcd (a * p + l * b) (b * p) := Nat.gcd_pos_of_pos_right _ hbp
  have hpM : p ∣ lcmN 1 P := by
    have := dvd_lcmN 1 P (rd P i) (by rw [rd_nat (by omega)]; exact List.getElem_mem _)
    rwa [hp, Int.toNat_natCast] at this
  have e : (a * p + l * b) * lcmN 1 P = (b * p) * numTo L P (lcmN 1 P) (i + 1) := by
    rw [numTo, hl, hp, Int.toNat_natCast, Int.toNat_natCast, Nat.add_mul, Nat.mul_add]
    have h1 : a * p * lcmN 1 P = b * p * numTo L P (lcmN 1 P) i := by
      rw [Nat.mul_right_comm, s.val, Nat.mul_right_comm]
    have h2 : l * b * lcmN 1 P = b * p * (l * (lcmN 1 P / p)) := by
      have h3 : p * (lcmN 1 P / p) = lcmN 1 P := Nat.mul_div_cancel' hpM
      rw [show b * p * (l * (lcmN 1 P / p)) = l * b * (p * (lcmN 1 P / p)) by ac_rfl, h3]
    rw [h1, h2]
  generalize hgg : Nat.gcd (a * p + l * b) (b * p) = g at hg ⊢
  have d1 : g ∣ a * p + l * b := hgg ▸ Nat.gcd_dvd_left _ _
  have d2 : g ∣ b * p := hgg ▸ Nat.gcd_dvd_right _ _
  refine ⟨hg, ?_, Nat.div_pos (Nat.le_of_dvd hbp d2) hg, ?_⟩
  · rw [← hgg]
    exact Nat.coprime_div_gcd_div_gcd (hgg.symm ▸ hg)
  · have h5 : g * ((a * p + l * b) / g * lcmN 1 P) = g * (b * p / g * numTo L P (lcmN 1 P) (i + 1)) := by
      rw [← Nat.mul_assoc, ← Nat.mul_assoc, Nat.mul_div_cancel' d1, Nat.mul_div_cancel' d2, e]
    exact Nat.eq_of_mul_eq_mul_left hg h5
def loadOf (L P : List Int) : Int × Int :=
  (((numTo L P (lcmN 1 P) L.length / Nat.gcd (numTo L P (lcmN 1 P) L.length) (lcmN 1 P) : Nat) : Int), ((lcmN 1 P / Nat.gcd (numTo L P (lcmN 1 P) L.length) (lcmN 1 P) : Nat) : Int))
theorem load_l0 (L P D : List Int) (h : isJobs L P D = true) : ∀ (d i : Nat), i + d = L.length →
    Ev (fun k => impl_Jobs_load.l0 k ((lcmN 1 P : Nat) : Int) ((numTo L P (lcmN 1 P) i : Nat) : Int) P (P.length : Int) (i : Int) L P D) (loadOf L P) := by
  have hlen := isJobs_len h
  have ⟨hM, hM2⟩ := M_le h
  intro d
  induction d with
  | zero =>
    intro i hi
    obtain rfl : i = L.length := by omega
    have hn := numTo_le h (lcmN 1 P) L.length (Nat.le_refl _)
    have hn2 : 20 * L.length * lcmN 1 P ≤ 160 * 167961600000000 := Nat.mul_le_mul (by omega) hM2
    refine Ev.step (fun k => by rw [impl_Jobs_load.l0]) ?_
    refine ev_neg (by omega) (ev_bind (divisor_ev _ _) ?_)
    have hg : 0 < Nat.gcd (numTo L P (lcmN 1 P) L.length) (lcmN 1 P) := Nat.gcd_pos_of_pos_right _ hM
    refine ev_neg (by omega) (ev_is ?_)
    rw [tdiv_nat, tdiv_nat, wrap_nat (Nat.le_trans (Nat.div_le_self _ _) (by omega)), wrap_nat (Nat.le_trans (Nat.div_le_self _ _) (by omega))]
    rfl
  | succ d ih =>
    intro i hi
    have hat := isJobs_at h (i := i) (by omega)
    have hn := numTo_le h (lcmN 1 P) i (by omega)
    have hn2 : 20 * i * lcmN 1 P ≤ 160 * 167961600000000 := Nat.mul_le_mul (by omega) hM2
    have hi2 := ih (i + 1) (by omega)
    rw [numTo] at hi2
    obtain ⟨l, hl⟩ : ∃ l : Nat, rd L i = (l : Int) := ⟨(rd L i).toNat, by omega⟩
    obtain ⟨p, hp⟩ : ∃ p : Nat, rd P i = (p : Int) := ⟨(rd P i).toNat, by omega⟩
    rw [hl, hp, Int.toNat_natCast, Int.toNat_natCast] at hi2
    have b0 := Nat.div_le_self (lcmN 1 P) p
    have b1 : l * (lcmN 1 P / p) ≤ 20 * 167961600000000 := Nat.mul_le_mul (by omega) (Nat.le_trans b0 hM2)
    refine Ev.step (fun k => by rw [impl_Jobs_load.l0]) ?_
    refine ev_pos (by omega) (ev_pos (by omega) (ev_pos (by omega) (ev_pos (by omega) (ev_neg (by omega) ?_))))
    rw [hl, hp, tdiv_nat, wrap_nat (Nat.le_trans b0 (by omega)), ← Int.natCast_mul, wrap_nat (Nat.le_trans b1 (by omega)), ← Int.natCast_add, wrap_nat (Nat.le_trans (Nat.add_le_add (Nat.le_trans hn hn2) b1) (by omega)), wrap_succ (by omega)]
    exact hi2
theorem load_ev (L P D : List Int) (h : isJobs L P D = true) : Ev (fun k => impl_Jobs_load.f k L P D) (loadOf L P) := by
  unfold impl_Jobs_load.f
  refine ev_bind (whole_ev L P D h) ?_
  exact load_l0 L P D h L.length 0 (by omega)
end Go.Proofs.Ytjkgjmaldbmgmaa.Pure
end
section
namespace Go.Proofs.Ytjkgjmaldbmgmaa.Pure
open Go.RowKit Go.Proofs.Ytjkgjmaldbmgmaa.P Go.Proofs.YtjkgjmaldbmgmaaW.PrintWords Go.Proofs.YtjkgjmaldbmgmaaW.PrintLast Go.Proofs.YtjkgjmaldbmgmaaW.PrintMore
set_option linter.unusedVariables false
set_option linter.unusedSimpArgs false
def roomGo (L P D : List Int) : Nat → Int → Int → Int
  | 0, least, _ => least
  | d + 1, least, n => roomGo L P D d (mn least (n - demTo L P D n L.length)) (n + 1)
theorem dem_small {L P D : List Int} (h : isJobs L P D = true) {n : Int} (hn : 0 ≤ n ∧ n ≤ 1000) : 0 ≤ demTo L P D n L.length ∧ demTo L P D n L.length ≤ 160160 := by
  have h1 := demTo_bounds h hn L.length (Nat.le_refl _)
  have h2 := isJobs_len h
  omega
theorem room_impl_l0 (L P D : List Int) (h : isJobs L P D = true) (hw : lcmN 1 P ≤ 240) : ∀ (d : Nat) (least n : Int), n + d = (lcmN 1 P : Nat) + 1 → 2 ≤ n →
    Ev (fun k => impl_Jobs_room.l0 k least n L P D) (roomGo L P D d least n) := by
  have hr := whole_ev L P D h
  intro d
  induction d with
  | zero =>
    intro least n hn h2
    refine Ev.step (fun k => by rw [impl_Jobs_room.l0]) ?_
    exact ev_bind hr (ev_neg (by omega) (ev_now _))
  | succ d ih =>
    intro least n hn h2
    have hd := dem_small h (n := n) (by omega)
    refine Ev.step (fun k => by rw [impl_Jobs_room.l0]) ?_
    refine ev_bind hr (ev_pos (by omega) (ev_bind (demand_ev L P D h n (by omega)) ?_))
    rw [wrap_id (x := n - _) (by omega) (by omega), wrap_id (x := n + 1) (by omega) (by omega)]
    exact ih _ (n + 1) (by omega) (by omega)
theorem room_ev (L P D : List Int) (h : isJobs L P D = true) (hw : lcmN 1 P ≤ 240) : Ev (fun k => impl_Jobs_room.f k L P D) (roomGo L P D (lcmN 1 P - 1) (1 - demTo L P D 1 L.length) 2) := by
  unfold impl_Jobs_room.f
  have hd := dem_small h (n := 1) (by omega)
  have hp := lcmN_pos 1 (by omega) P (fun x hx => (isJobs_P h x hx).1)
  refine ev_bind (demand_ev L P D h 1 (by omega)) ?_
  rw [wrap_id (by omega) (by omega)]
  exact room_impl_l0 L P D h hw _ _ 2 (by omega) (by omega)
end Go.Proofs.Ytjkgjmaldbmgmaa.Pure
end
section
namespace Go.Proofs.Ytjkgjmaldbmgmaa.Pure
set_option linter.unusedVariables false
set_option linter.unusedSimpArgs false
def sumTo (f : Nat → Int) : Nat → Int
  | 0 => 0
  | k + 1 => sumTo f k + f k
theorem sumTo_le {f g : Nat → Int} : ∀ k, (∀ i, i < k → f i ≤ g i) → sumTo f k ≤ sumTo g k := by
  intro k
  induction k with
  | zero => intro _; exact Int.le_refl _
  | succ k ih => intro h; have h1 := ih (fun i hi => h i (by omega)); have h2 := h k (by omega); simp only [sumTo]; omega
theorem sumTo_lt {f g : Nat → Int} : ∀ k, (∀ i, i < k → f i ≤ g i) → (∃ j, j < k ∧ f j < g j) → sumTo f k < sumTo g k := by
  intro k
  induction k with
  | zero => intro _ ⟨j, hj, _⟩; omega
  | succ k ih =>
    intro h ⟨j, hj, hlt⟩
    simp only [sumTo]
    by_cases e : j = k
    · subst e; have h1 := sumTo_le (f := f) (g := g) j (fun i hi => h i (by omega)); omega
    · have h1 := ih (fun i hi => h i (by omega)) ⟨j, by omega, hlt⟩; have h2 := h k (by omega); omega
theorem sumTo_congr {f g : Nat → Int} : ∀ k, (∀ i, i < k → f i = g i) → sumTo f k = sumTo g k := by
  intro k
  induction k with
  | zero => intro _; rfl
  | succ k ih => intro h; simp only [sumTo]; rw [ih (fun i hi => h i (by omega)), h k (by omega)]
theorem sumTo_add (f g : Nat → Int) : ∀ k, sumTo (fun i => f i + g i) k = sumTo f k + sumTo g k := by
  intro k
  induction k with
  | zero => rfl
  | succ k ih => simp only [sumTo]; rw [ih]; omega
theorem sumTo_zero : ∀ k, sumTo (fun _ => 0) k = 0 := by
  intro k
  induction k with
  | zero => rfl
  | succ k ih => simp only [sumTo]; rw [ih]; rfl
def hit (best : Nat → Int) (t i : Nat) : Int := if best t = (i : Int) then 1 else 0
def wrk (best : Nat → Int) : Nat → Nat → Int
  | 0, _ => 0
  | t + 1, i => wrk best t i + hit best t i
theorem hit_01 (best : Nat → Int) (t i : Nat) : hit best t i = 0 ∨ (hit best t i = 1 ∧ best t = (i : Int)) := by
  unfold hit; split
  · next h => exact .inr ⟨rfl, h⟩
  · exact .inl rfl
theorem sum_hit (best : Nat → Int) (t : Nat) : ∀ k, (best t < 0 → sumTo (hit best t) k = 0) ∧ (0 ≤ best t → sumTo (hit best t) k = if best t < (k : Int) then 1 else 0) := by
  intro k
  induction k with
  | zero => exact ⟨fun _ => rfl, fun h => by rw [if_neg (by omega)]; rfl⟩
  | succ k ih =>
    simp only [sumTo, hit]
    refine ⟨fun h => ?_, fun h => ?_⟩
    · have := ih.1 h
      rw [if_neg (by omega)]; omega
    · have := ih.2 h
      rw [this]
      by_cases e : best t = (k : Int)
      · rw [if_neg (by omega), if_pos e, if_pos (by omega)]; rfl
      · rw [if_neg e]
        by_cases e2 : best t < (k : Int)
        · rw [if_pos e2, if_pos (by omega)]; rfl
        · rw [if_neg e2, if_neg (by omega)]; rfl
theorem wrk_nonneg (best : Nat → Int) (i : Nat) : ∀ t, 0 ≤ wrk best t i := by
  intro t
  induction t with
  | zero => exact Int.le_refl _
  | succ t ih => simp only [wrk]; rcases hit_01 best t i with h | ⟨h, _⟩ <;> omega
theorem sum_wrk_le (best : Nat → Int) (k : Nat) : ∀ t : Nat, sumTo (wrk best t) k ≤ t := by
  intro t
  induction t with
  | zero => rw [show sumTo (wrk best 0) k = 0 from sumTo_zero k]; omega
  | succ t ih =>
    rw [show sumTo (wrk best (t + 1)) k = sumTo (fun i => wrk best t i + hit best t i) k from rfl, sumTo_add]
    have := sum_hit best t k
    by_cases h : best t < 0
    · have := this.1 h; omega
    · have := this.2 (by omega)
      split at this <;> omega
structure Edf (k : Nat) (l p d : Nat → Nat) (left due a e : Nat → Nat → Int) (best : Nat → Int) : Prop where
  pd : ∀ i, i < k → 1 ≤ p i ∧ 1 ≤ d i ∧ d i ≤ p i
  l0 : ∀ i, i < k → left 0 i = 0
  ha : ∀ t i, i < k → a t i = if t % p i = 0 then (l i : Int) else left t i
  he : ∀ t i, i < k → e t i = if t % p i = 0 then ((t + d i : Nat) : Int) else due t i
  hb : ∀ t, (best t = -1 ∧ ∀ i, i < k → a t i ≤ 0) ∨ ∃ b : Nat, best t = (b : Int) ∧ b < k ∧ a t b > 0 ∧ ∀ i, i < k → a t i > 0 → e t b ≤ e t i
  nl : ∀ t i, i < k → left (t + 1) i = a t i - hit best t i
  nd : ∀ t i, i < k → due (t + 1) i = e t i
variable {k : Nat} {l p d : Nat → Nat} {left due a e : Nat → Nat → Int} {best : Nat → Int}
theorem Edf.hit_pos (E : Edf k l p d left due a e best) (t i : Nat) (hi : i < k) (h : best t = (i : Int)) : a t i > 0 := by
  rcases E.hb t with ⟨h1, _⟩ | ⟨b, h1, _, h2, _⟩
  · omega
  · rw [show i = b by omega]; exact h2
structure At (l p d : Nat → Nat) (left due : Nat → Nat → Int) (best : Nat → Int) (s i : Nat) : Prop where
  lo : 0 ≤ left (s + 1) i
  hi : left (s + 1) i ≤ l i
  du : due (s + 1) i = ((s / p i * p i + d i : Nat) : Int)
  wk : left (s + 1) i + wrk best (s + 1) i = ((l i * (s / p i + 1) : Nat) : Int)
  ti : left (s + 1) i > 0 → ((s + 1 : Nat) : Int) ≤ due (s + 1) i
theorem Edf.at (E : Edf k l p d left due a e best) (T : Nat) (hT : ∀ u i, u < T → i < k → ¬ (left u i > 0 ∧ due u i = (u : Int))) : ∀ s, s + 1 ≤ T → ∀ i, i < k → At l p d left due best s i := by
  intro s
  induction s with
  | zero =>
    intro _ i hi
    have h1 := E.pd i hi
    have h2 := E.nl 0 i hi
    have h3 := E.nd 0 i hi
    rw [E.ha 0 i hi, if_pos (Nat.zero_mod _)] at h2
    rw [E.he 0 i hi, if_pos (Nat.zero_mod _)] at h3
    have h4 := E.hit_pos 0 i hi
    rw [E.ha 0 i hi, if_pos (Nat.zero_mod _)] at h4
    have h5 := hit_01 best 0 i
    refine ⟨?_, ?_, ?_, ?_, ?_⟩
    · rcases h5 with h5 | ⟨h5, h6⟩
      · omega
      · have := h4 h6; omega
    · omega
    · rw [h3, Nat.zero_div, Nat.zero_mul]
    · rw [h2, Nat.zero_div, Nat.zero_add, Nat.mul_one, wrk, wrk]; omega
    · intro _; rw [h3]; omega
  | succ s ih =>
    intro hs i hi
    have A := ih (by omega) i hi
    have h1 := E.pd i hi
    have h2 := E.nl (s + 1) i hi
    have h3 := E.nd (s + 1) i hi
    have h4 := E.hit_pos (s + 1) i hi
    have h5 := hit_01 best (s + 1) i
    have hno := hT (s + 1) i (by omega) hi
    have hw : wrk best (s + 1 + 1) i = wrk best (s + 1) i + hit best (s + 1) i := rfl
    have alo := A.lo
    have ahi := A.hi
    have adu := A.du
    have awk := A.wk
    have ati := A.ti
    by_cases c : (s + 1) % p i = 0
    · rw [E.ha _ i hi, if_pos c] at h2 h4
      rw [E.he _ i hi, if_pos c] at h3
      have hq : (s + 1) / p i = s / p i + 1 := Nat.succ_div_of_dvd (Nat.dvd_of_mod_eq_zero c)
      have hm : (s + 1) / p i * p i = s + 1 := Nat.div_mul_cancel (Nat.dvd_of_mod_eq_zero c)
      have hz : left (s + 1) i = 0 := by
        rw [hq, Nat.add_mul, Nat.one_mul] at hm
        rcases Decidable.em (0 < left (s + 1) i) with h | h
        · exact absurd ⟨h, by have := ati h; omega⟩ hno
        · omega
      refine ⟨?_, ?_, ?_, ?_, ?_⟩
      · rcases h5 with h5 | ⟨h5, h6⟩
        · omega
        · have := h4 h6; omega
      · omega
      · rw [h3, hm]
      · rw [hq, h2, hw]
        rw [Nat.mul_add (l i) (s / p i + 1) 1]
        omega
      · intro _; rw [h3]; omega
    · rw [E.ha _ i hi, if_neg c] at h2 h4
      rw [E.he _ i hi, if_neg c] at h3
      have hq : (s + 1) / p i = s / p i := Nat.succ_div_of_not_dvd (fun h => c (Nat.mod_eq_zero_of_dvd h))
      refine ⟨?_, ?_, ?_, ?_, ?_⟩
      · rcases h5 with h5 | ⟨h5, h6⟩
        · omega
        · have := h4 h6; omega
      · rcases h5 with h5 | ⟨h5, h6⟩ <;> omega
      · rw [h3, hq]; exact adu
      · rw [hq, h2, hw]; omega
      · intro hp
        rw [h3]
        have hp1 : left (s + 1) i > 0 := by rcases h5 with h5 | ⟨h5, h6⟩ <;> omega
        have := ati hp1
        have : due (s + 1) i ≠ ((s + 1 : Nat) : Int) := fun h => hno ⟨hp1, h⟩
        omega
/-- the demand of a task up to n -/
def dmd (l p d : Nat → Nat) (n i : Nat) : Int := if d i ≤ n then ((l i * ((n - d i) / p i + 1) : Nat) : Int) else 0
theorem Edf.demand_le (E : Edf k l p d left due a e best) (M : Nat) (hT : ∀ u i, u ≤ M → i < k → ¬ (left u i > 0 ∧ due u i = (u : Int))) (n : Nat) (h1 : 1 ≤ n) (h2 : n ≤ M) : sumTo (dmd l p d n) k ≤ n := by
  refine Int.le_trans (sumTo_le k fun i hi => ?_) (sum_wrk_le best k n)
  obtain ⟨s, rfl⟩ : ∃ s, n = s + 1 := ⟨n - 1, by omega⟩
  have A := E.at M (fun u i hu hi => hT u i (by omega) hi) s h2 i hi
  have hno := hT (s + 1) i h2 hi
  have hpd := E.pd i hi
  have hw := wrk_nonneg best i (s + 1)
  have alo := A.lo
  have ahi := A.hi
  have adu := A.du
  have awk := A.wk
  have ati := A.ti
  unfold dmd
  by_cases c : d i ≤ s + 1
  · rw [if_pos c]
    have hq : (s + 1 - d i) / p i ≤ s / p i := Nat.div_le_div_right (by omega)
    rcases Nat.lt_or_ge ((s + 1 - d i) / p i) (s / p i) with hlt | hge
    · have : l i * ((s + 1 - d i) / p i + 1) ≤ l i * (s / p i) := Nat.mul_le_mul_left _ hlt
      rw [Nat.mul_add, Nat.mul_one] at awk
      omega
    · have heq : (s + 1 - d i) / p i = s / p i := Nat.le_antisymm hq hge
      have hm : (s + 1 - d i) / p i * p i ≤ s + 1 - d i := Nat.div_mul_le_self _ _
      rw [heq] at hm ⊢
      have hz : left (s + 1) i = 0 := by
        rcases Decidable.em (0 < left (s + 1) i) with h | h
        · exact absurd ⟨h, by have := ati h; omega⟩ hno
        · omega
      omega
  · rw [if_neg c]; exact hw
theorem Edf.first (E : Edf k l p d left due a e best) (s : Nat) : ∀ t, t < s → (∀ u, t ≤ u → u < s → ∃ b : Nat, best u = (b : Int) ∧ b < k ∧ e u b ≤ s) →
    ∃ t0, t0 ≤ t ∧ (∀ u, t0 ≤ u → u < s → ∃ b : Nat, best u = (b : Int) ∧ b < k ∧ e u b ≤ s) ∧ ∀ i, i < k → left t0 i > 0 → due t0 i > s := by
  intro t
  induction t with
  | zero => intro _ h; exact ⟨0, by omega, h, fun i hi hp => by rw [E.l0 i hi] at hp; omega⟩
  | succ t ih =>
    intro ht h
    by_cases c : ∃ b : Nat, best t = (b : Int) ∧ b < k ∧ e t b ≤ s
    · obtain ⟨t0, h0, h1, h2⟩ := ih (by omega) (fun u hu hus => by
        by_cases e : u = t
        · subst e; exact c
        · exact h u (by omega) hus)
      exact ⟨t0, by omega, h1, h2⟩
    · refine ⟨t + 1, by omega, h, fun i hi hp => ?_⟩
      rw [E.nl t i hi] at hp
      rw [E.nd t i hi]
      have hp2 : a t i > 0 := by rcases hit_01 best t i with h | ⟨h, _⟩ <;> omega
      rcases E.hb t with ⟨_, h1⟩ | ⟨b, h1, h2, _, h3⟩
      · have := h1 i hi; omega
      · have := h3 i hi hp2
        have : ¬ e t b ≤ s := fun h => c ⟨b, h1, h2, h⟩
        omega
theorem Edf.count (E : Edf k l p d left due a e best) (s t0 : Nat) (i : Nat) (hi : i < k) (hgood : ∀ u, t0 ≤ u → u < s → ∃ b : Nat, best u = (b : Int) ∧ b < k ∧ e u b ≤ s) (h0 : left t0 i > 0 → due t0 i > s)
    (hlo : ∀ t, t ≤ s → 0 ≤ left t i) : ∀ m, t0 + m ≤ s → ∃ N : Nat, wrk best (t0 + m) i - wrk best t0 i + (if due (t0 + m) i ≤ s then left (t0 + m) i else 0) ≤ ((l i * N : Nat) : Int) ∧
      (1 ≤ N → ∃ r, r % p i = 0 ∧ r < t0 + m ∧ r + d i ≤ s ∧ t0 + N * p i ≤ r + p i) := by
  intro m
  induction m with
  | zero =>
    intro _
    refine ⟨0, ?_, fun h => by omega⟩
    rw [Nat.add_zero, Nat.mul_zero]
    split
    · have : ¬ left t0 i > 0 := fun h => by have := h0 h; omega
      omega
    · omega
  | succ m ih =>
    intro hm
    obtain ⟨N, h1, h2⟩ := ih (by omega)
    have hl := hlo (t0 + m) (by omega)
    have h3 : wrk best (t0 + m) i - wrk best t0 i ≤ ((l i * N : Nat) : Int) := by
      split at h1 <;> omega
    have hw : wrk best (t0 + (m + 1)) i = wrk best (t0 + m) i + hit best (t0 + m) i := rfl
    have hh := hit_01 best (t0 + m) i
    have hbad : ¬ e (t0 + m) i ≤ s → hit best (t0 + m) i = 0 := by
      intro hn
      rcases hh with h | ⟨_, h⟩
      · exact h
      · obtain ⟨b, hb1, _, hb2⟩ := hgood (t0 + m) (by omega) (by omega)
        rw [show i = b by omega] at hn
        exact absurd hb2 hn
    have hnl : left (t0 + (m + 1)) i = a (t0 + m) i - hit best (t0 + m) i := E.nl (t0 + m) i hi
    have hnd : due (t0 + (m + 1)) i = e (t0 + m) i := E.nd (t0 + m) i hi
    rw [hw, hnl, hnd]
    by_cases c : (t0 + m) % p i = 0
    · have ea : a (t0 + m) i = l i := by rw [E.ha _ i hi, if_pos c]
      have ee : e (t0 + m) i = ((t0 + m + d i : Nat) : Int) := by rw [E.he _ i hi, if_pos c]
      by_cases c2 : e (t0 + m) i ≤ s
      · rw [if_pos c2]
        refine ⟨N + 1, ?_, fun _ => ⟨t0 + m, c, by omega, by omega, ?_⟩⟩
        · rw [Nat.mul_add, Nat.mul_one]; omega
        · rw [Nat.add_mul, Nat.one_mul]
          rcases Nat.eq_zero_or_pos N with hN | hN
          · subst hN; rw [Nat.zero_mul]; omega
          · obtain ⟨r, r1, r2, r3, r4⟩ := h2 hN
            have : r + p i ≤ t0 + m := by
              have d1 := Nat.div_add_mod r (p i)
              have d2 := Nat.div_add_mod (t0 + m) (p i)
              rw [r1] at d1
              rw [c] at d2
              have : r / p i < (t0 + m) / p i := by
                rcases Nat.lt_or_ge (r / p i) ((t0 + m) / p i) with h | h
                · exact h
                · have := Nat.mul_le_mul_left (p i) h; omega
              have := Nat.mul_le_mul_left (p i) this
              rw [Nat.succ_eq_add_one, Nat.mul_add, Nat.mul_one] at this
              omega
            omega
      · rw [if_neg c2]
        have := hbad c2
        refine ⟨N, by omega, fun hN => ?_⟩
        obtain ⟨r, r1, r2, r3, r4⟩ := h2 hN
        exact ⟨r, r1, by omega, r3, r4⟩
    · have ea : a (t0 + m) i = left (t0 + m) i := by rw [E.ha _ i hi, if_neg c]
      have ee : e (t0 + m) i = due (t0 + m) i := by rw [E.he _ i hi, if_neg c]
      refine ⟨N, ?_, fun hN => ?_⟩
      · by_cases c2 : e (t0 + m) i ≤ s
        · rw [if_pos c2]
          rw [if_pos (by omega)] at h1
          omega
        · rw [if_neg c2]
          have := hbad c2
          omega
      · obtain ⟨r, r1, r2, r3, r4⟩ := h2 hN
        exact ⟨r, r1, by omega, r3, r4⟩
theorem sum_wrk_run (best : Nat → Int) (k t0 s : Nat) (hgood : ∀ u, t0 ≤ u → u < s → ∃ b : Nat, best u = (b : Int) ∧ b < k) : ∀ m, t0 + m ≤ s → sumTo (fun i => wrk best (t0 + m) i - wrk best t0 i) k = m := by
  intro m
  induction m with
  | zero =>
    intro _
    rw [sumTo_congr (g := fun _ => 0) k (fun i _ => by simp), sumTo_zero]
    rfl
  | succ m ih =>
    intro hm
    obtain ⟨b, hb1, hb2⟩ := hgood (t0 + m) (by omega) (by omega)
    rw [sumTo_congr (g := fun i => (wrk best (t0 + m) i - wrk best t0 i) + hit best (t0 + m) i) k (fun i _ => by
      show wrk best (t0 + m) i + hit best (t0 + m) i - wrk best t0 i = _; omega), sumTo_add, ih (by omega), (sum_hit best (t0 + m) k).2 (by omega), if_pos (by omega)]
    omega
theorem Edf.no_late (E : Edf k l p d left due a e best) (M : Nat) (hd : ∀ n : Nat, 1 ≤ n → n ≤ M → sumTo (dmd l p d n) k ≤ n) (s : Nat) (hs : s ≤ M) (hT : ∀ u i, u < s → i < k → ¬ (left u i > 0 ∧ due u i = (u : Int))) (j : Nat) (hj : j < k) : ¬ (left s j > 0 ∧ due s j = (s : Int)) := by
  rintro ⟨hl, hdue⟩
  rcases Nat.eq_zero_or_pos s with h0 | h0
  · subst h0; rw [E.l0 j hj] at hl; omega
  obtain ⟨s', rfl⟩ : ∃ s', s = s' + 1 := ⟨s - 1, by omega⟩
  have hlo : ∀ i, i < k → ∀ t, t ≤ s' + 1 → 0 ≤ left t i := by
    intro i hi t ht
    rcases Nat.eq_zero_or_pos t with h | h
    · subst h; rw [E.l0 i hi]; omega
    · obtain ⟨t', rfl⟩ : ∃ t', t = t' + 1 := ⟨t - 1, by omega⟩
      exact (E.at (s' + 1) hT t' ht i hi).lo
  have hlast : ∃ b : Nat, best s' = (b : Int) ∧ b < k ∧ e s' b ≤ ((s' + 1 : Nat) : Int) := by
    rw [E.nl s' j hj] at hl
    rw [E.nd s' j hj] at hdue
    have hp : a s' j > 0 := by rcases hit_01 best s' j with h | ⟨h, _⟩ <;> omega
    rcases E.hb s' with ⟨_, h1⟩ | ⟨b, h1, h2, _, h3⟩
    · have := h1 j hj; omega
    · have := h3 j hj hp
      exact ⟨b, h1, h2, by omega⟩
  obtain ⟨t0, ht0, hgood, hstart⟩ := E.first (s' + 1) s' (by omega) (fun u h1 h2 => by rw [show u = s' by omega]; exact hlast)
  clear hlast
  have hn := hd (s' + 1 - t0) (by omega) (by omega)
  have hcnt : ∀ i, i < k → wrk best (s' + 1) i - wrk best t0 i + (if due (s' + 1) i ≤ ((s' + 1 : Nat) : Int) then left (s' + 1) i else 0) ≤ dmd l p d (s' + 1 - t0) i := by
    intro i hi
    obtain ⟨N, h1, h2⟩ := E.count (s' + 1) t0 i hi hgood (hstart i hi) (hlo i hi) (s' + 1 - t0) (by omega)
    have ht1 : t0 + (s' + 1 - t0) = s' + 1 := by clear h1 h2; omega
    rw [ht1] at h1 h2
    refine Int.le_trans h1 ?_
    unfold dmd
    rcases Nat.eq_zero_or_pos N with hN | hN
    · subst hN
      rw [Nat.mul_zero]
      clear h1 h2
      split
      · exact Int.natCast_nonneg _
      · exact Int.le_refl _
    · obtain ⟨r, r1, r2, r3, r4⟩ := h2 hN
      have hpd := E.pd i hi
      have hNp : N * p i = (N - 1) * p i + p i := by
        rw [show N = (N - 1) + 1 by omega, Nat.add_mul, Nat.one_mul, Nat.add_sub_cancel]
      rw [if_pos (by omega)]
      have : N - 1 ≤ (s' + 1 - t0 - d i) / p i := by
        rw [Nat.le_div_iff_mul_le (by omega)]
        omega
      have := Nat.mul_le_mul_left (l i) (show N ≤ (s' + 1 - t0 - d i) / p i + 1 by omega)
      omega
  have hsum := sum_wrk_run best k t0 (s' + 1) (fun u h1 h2 => by obtain ⟨b, hb1, hb2, _⟩ := hgood u h1 h2; exact ⟨b, hb1, hb2⟩) (s' + 1 - t0) (by omega)
  rw [show t0 + (s' + 1 - t0) = s' + 1 by omega] at hsum
  have hlt : sumTo (fun i => wrk best (s' + 1) i - wrk best t0 i) k < sumTo (dmd l p d (s' + 1 - t0)) k := by
    refine sumTo_lt k (fun i hi => ?_) ⟨j, hj, ?_⟩
    · have h1 := hcnt i hi
      have h2 := hlo i hi (s' + 1) (by omega)
      split at h1 <;> omega
    · have h1 := hcnt j hj
      rw [if_pos (by omega)] at h1
      show wrk best (s' + 1) j - wrk best t0 j < _
      omega
  omega
theorem Edf.iff (E : Edf k l p d left due a e best) (M : Nat) : (∀ u i, u ≤ M → i < k → ¬ (left u i > 0 ∧ due u i = (u : Int))) ↔ ∀ n : Nat, 1 ≤ n → n ≤ M → sumTo (dmd l p d n) k ≤ n := by
  refine ⟨fun h n h1 h2 => E.demand_le M h n h1 h2, fun h => ?_⟩
  have : ∀ s u, u < s → s ≤ M + 1 → ∀ i, i < k → ¬ (left u i > 0 ∧ due u i = (u : Int)) := by
    intro s
    induction s with
    | zero => intro u hu; omega
    | succ s ih =>
      intro u hu hs i hi
      by_cases c : u = s
      · subst c
        exact E.no_late M h u (by omega) (fun v j hv hj => ih v hv (by omega) j hj) i hi
      · exact ih u (by omega) (by omega) i hi
  exact fun u i hu hi => this (u + 1) u (by omega) (by omega) i hi
end Go.Proofs.Ytjkgjmaldbmgmaa.Pure
end
section
namespace Go.Proofs.Ytjkgjmaldbmgmaa.P
open Go.RowKit Go.Proofs.YtjkgjmaldbmgmaaW.PrintWords Go.Proofs.YtjkgjmaldbmgmaaW.PrintLast Go.Proofs.YtjkgjmaldbmgmaaW.PrintMore
attribute [local go_sem] max2_int min2_int max_two min_two max_three min_three max_four min_four   -- for this text's walks alone
set_option linter.unusedVariables false
set_option linter.unusedSimpArgs false
def impl_road.f (a0 : Int) (a1 : Int) : Option (Int) := if 0 ≤ (wrap64 ((wrap64 (Int.tdiv (wrap64 ((mx a0 a1) * (wrap64 ((mx a0 a1) - 1)))) 2)) + (mn a0 a1))) then (some (shl .i64 1 (wrap64 ((wrap64 (Int.tdiv (wrap64 ((mx a0 a1) * (wrap64 ((mx a0 a1) - 1)))) 2)) + (mn a0 a1))))) else (none)
end Go.Proofs.Ytjkgjmaldbmgmaa.P
end
section
namespace Go.Proofs.Ytjkgjmaldbmgmaa.P
open Go.RowKit Go.Proofs.YtjkgjmaldbmgmaaW.PrintWords Go.Proofs.YtjkgjmaldbmgmaaW.PrintLast Go.Proofs.YtjkgjmaldbmgmaaW.PrintMore
attribute [local go_sem] max2_int min2_int max_two min_two max_three min_three max_four min_four   -- for this text's walks alone
set_option linter.unusedVariables false
set_option linter.unusedSimpArgs false
def impl_Ground_joins.f (a0_0 : Int) (a0_1 : Int) (a1 : Int) (a2 : Int) : Option (Bool) := if a1 = a2 then (some false) else ((impl_road.f a1 a2).bind fun t102 => (some ((Go.bits .and .i64 a0_1 t102) != 0)))
end Go.Proofs.Ytjkgjmaldbmgmaa.P
end
section
namespace Go.Proofs.Ytjkgjmaldbmgmaa.P
open Go.RowKit Go.Proofs.YtjkgjmaldbmgmaaW.PrintWords Go.Proofs.YtjkgjmaldbmgmaaW.PrintLast Go.Proofs.YtjkgjmaldbmgmaaW.PrintMore
attribute [local go_sem] max2_int min2_int max_two min_two max_three min_three max_four min_four   -- for this text's walks alone
set_option linter.unusedVariables false
set_option linter.unusedSimpArgs false
def impl_Ground_isNear.f (a0_0 : Int) (a0_1 : Int) (a1 : Int) (a2 : Int) : Option (Bool) := if a1 = a2 then (some true) else ((impl_Ground_joins.f a0_0 a0_1 a1 a2).bind fun t102 => (some t102))
end Go.Proofs.Ytjkgjmaldbmgmaa.P
end
section
namespace Go.Proofs.Ytjkgjmaldbmgmaa.P
open Go.RowKit Go.Proofs.YtjkgjmaldbmgmaaW.PrintWords Go.Proofs.YtjkgjmaldbmgmaaW.PrintLast Go.Proofs.YtjkgjmaldbmgmaaW.PrintMore
attribute [local go_sem] max2_int min2_int max_two min_two max_three min_three max_four min_four   -- for this text's walks alone
set_option linter.unusedVariables false
set_option linter.unusedSimpArgs false
def slices_Index_Sint64_int64.l0 : Nat → List Int → Int → Int → Int → Option (Int)
  | 0, _, _, _, _ => none
  | k + 1, x0, x1, x7, x8 => if x8 < x7 then (if 0 ≤ x8 then (if x8 < (x0.length : Int) then (if x1 = (rd x0 x8) then (some x8) else (slices_Index_Sint64_int64.l0 k x0 x1 x7 (wrap64 (x8 + 1)))) else (none)) else (none)) else (some (-1))
def slices_Index_Sint64_int64.f (k : Nat) (l0 : List Int) (a1 : Int) : Option (Int) := slices_Index_Sint64_int64.l0 k l0 a1 (l0.length : Int) 0
theorem slices_Index_Sint64_int64.mono_l : ∀ k, (∀ y0 y1 y2 y3, LeO (slices_Index_Sint64_int64.l0 k y0 y1 y2 y3) (slices_Index_Sint64_int64.l0 (k + 1) y0 y1 y2 y3))
  | 0 => fun _ _ _ _ r h => by simp [slices_Index_Sint64_int64.l0] at h
  | k + 1 => by
    have ih0 := slices_Index_Sint64_int64.mono_l k
    · intro y0 y1 y2 y3
      unfold slices_Index_Sint64_int64.l0
      repeat' first
      | (with_reducible exact ih0 _ _ _ _)
      | (with_reducible exact LeO.refl _)
      | (with_reducible exact LeO.none _)
      | (with_reducible refine LeO.ite ?_ ?_)
      | (with_reducible refine LeO.bind ?_ (fun _ => ?_))
      | exact ih0 _ _ _ _
      | exact LeO.none _
      | refine LeO.ite ?_ ?_
      | refine LeO.bind ?_ (fun _ => ?_)
theorem slices_Index_Sint64_int64.mono : ∀ a0 a1 k, LeO (slices_Index_Sint64_int64.f k a0 a1) (slices_Index_Sint64_int64.f (k + 1) a0 a1) := by
  intro a0 a1 k
  have ih0 := slices_Index_Sint64_int64.mono_l k
  unfold slices_Index_Sint64_int64.f
  repeat' first
      | (with_reducible exact ih0 _ _ _ _)
      | (with_reducible exact LeO.refl _)
      | (with_reducible exact LeO.none _)
      | (with_reducible refine LeO.ite ?_ ?_)
      | (with_reducible refine LeO.bind ?_ (fun _ => ?_))
      | exact ih0 _ _ _ _
      | exact LeO.none _
      | refine LeO.ite ?_ ?_
      | refine LeO.bind ?_ (fun _ => ?_)
end Go.Proofs.Ytjkgjmaldbmgmaa.P
end
section
namespace Go.Proofs.Ytjkgjmaldbmgmaa.P
open Go.RowKit Go.Proofs.YtjkgjmaldbmgmaaW.PrintWords Go.Proofs.YtjkgjmaldbmgmaaW.PrintLast Go.Proofs.YtjkgjmaldbmgmaaW.PrintMore
attribute [local go_sem] max2_int min2_int max_two min_two max_three min_three max_four min_four   -- for this text's walks alone
set_option linter.unusedVariables false
set_option linter.unusedSimpArgs false
def slices_Contains_Sint64_int64.f (k : Nat) (l0 : List Int) (a1 : Int) : Option (Bool) := (slices_Index_Sint64_int64.f k l0 a1).bind fun t101 => (some (decide (t101 ≥ 0)))
theorem slices_Contains_Sint64_int64.mono : ∀ a0 a1 k, LeO (slices_Contains_Sint64_int64.f k a0 a1) (slices_Contains_Sint64_int64.f (k + 1) a0 a1) := by
  intro a0 a1 k
  unfold slices_Contains_Sint64_int64.f
  repeat' first
      | (with_reducible exact slices_Index_Sint64_int64.mono _ _ _)
      | (with_reducible exact LeO.refl _)
      | (with_reducible exact LeO.none _)
      | (with_reducible refine LeO.ite ?_ ?_)
      | (with_reducible refine LeO.bind ?_ (fun _ => ?_))
      | exact slices_Index_Sint64_int64.mono _ _ _
      | exact LeO.none _
      | refine LeO.ite ?_ ?_
      | refine LeO.bind ?_ (fun _ => ?_)
end Go.Proofs.Ytjkgjmaldbmgmaa.P
end
section
namespace Go.Proofs.Ytjkgjmaldbmgmaa.P
open Go.RowKit Go.Proofs.YtjkgjmaldbmgmaaW.PrintWords Go.Proofs.YtjkgjmaldbmgmaaW.PrintLast Go.Proofs.YtjkgjmaldbmgmaaW.PrintMore
attribute [local go_sem] max2_int min2_int max_two min_two max_three min_three max_four min_four   -- for this text's walks alone
set_option linter.unusedVariables false
set_option linter.unusedSimpArgs false
def impl_Ground_isRoute.l0 : Nat → List Int → List Int → Int → Int → Int → Int → Option (Bool)
  | 0, _, _, _, _, _, _ => none
  | k + 1, x1, x9, x10, x11, x102000, x102001 => if x11 < x10 then (if 0 ≤ x11 then (if x11 < (x9.length : Int) then (if (x1.length : Int) = 0 then (none) else (if 0 ≤ (Int.tmod (wrap64 (x11 + 1)) (x1.length : Int)) then (if (Int.tmod (wrap64 (x11 + 1)) (x1.length : Int)) < (x1.length : Int) then ((impl_Ground_isNear.f x102000 x102001 (rd x9 x11) (rd x1 (Int.tmod (wrap64 (x11 + 1)) (x1.length : Int)))).bind fun t105 => (if t105 = true then (impl_Ground_isRoute.l0 k x1 x9 x10 (wrap64 (x11 + 1)) x102000 x102001) else (some false))) else (none)) else (none))) else (none)) else (none)) else (some true)
def impl_Ground_isRoute.f (k : Nat) (a0_0 : Int) (a0_1 : Int) (l1 : List Int) : Option (Bool) := (slices_Contains_Sint64_int64.f k l1 (-1)).bind fun t102 => (if t102 = true then (some false) else (impl_Ground_isRoute.l0 k l1 l1 (l1.length : Int) 0 a0_0 a0_1))
theorem impl_Ground_isRoute.mono_l : ∀ k, (∀ y0 y1 y2 y3 y4 y5, LeO (impl_Ground_isRoute.l0 k y0 y1 y2 y3 y4 y5) (impl_Ground_isRoute.l0 (k + 1) y0 y1 y2 y3 y4 y5))
  | 0 => fun _ _ _ _ _ _ r h => by simp [impl_Ground_isRoute.l0] at h
  | k + 1 => by
    have ih0 := impl_Ground_isRoute.mono_l k
    · intro y0 y1 y2 y3 y4 y5
      unfold impl_Ground_isRoute.l0
      repeat' first
      | (with_reducible exact ih0 _ _ _ _ _ _)
      | (with_reducible exact slices_Contains_Sint64_int64.mono _ _ _)
      | (with_reducible exact LeO.refl _)
      | (with_reducible exact LeO.none _)
      | (with_reducible refine LeO.ite ?_ ?_)
      | (with_reducible refine LeO.bind ?_ (fun _ => ?_))
      | exact ih0 _ _ _ _ _ _
      | exact slices_Contains_Sint64_int64.mono _ _ _
      | exact LeO.none _
      | refine LeO.ite ?_ ?_
      | refine LeO.bind ?_ (fun _ => ?_)
theorem impl_Ground_isRoute.mono : ∀ a0 a1 a2 k, LeO (impl_Ground_isRoute.f k a0 a1 a2) (impl_Ground_isRoute.f (k + 1) a0 a1 a2) := by
  intro a0 a1 a2 k
  have ih0 := impl_Ground_isRoute.mono_l k
  unfold impl_Ground_isRoute.f
  repeat' first
      | (with_reducible exact ih0 _ _ _ _ _ _)
      | (with_reducible exact slices_Contains_Sint64_int64.mono _ _ _)
      | (with_reducible exact LeO.refl _)
      | (with_reducible exact LeO.none _)
      | (with_reducible refine LeO.ite ?_ ?_)
      | (with_reducible refine LeO.bind ?_ (fun _ => ?_))
      | exact ih0 _ _ _ _ _ _
      | exact slices_Contains_Sint64_int64.mono _ _ _
      | exact LeO.none _
      | refine LeO.ite ?_ ?_
      | refine LeO.bind ?_ (fun _ => ?_)
end Go.Proofs.Ytjkgjmaldbmgmaa.P
end
section
namespace Go.Proofs.Ytjkgjmaldbmgmaa.P
open Go.RowKit Go.Proofs.YtjkgjmaldbmgmaaW.PrintWords Go.Proofs.YtjkgjmaldbmgmaaW.PrintLast Go.Proofs.YtjkgjmaldbmgmaaW.PrintMore
attribute [local go_sem] max2_int min2_int max_two min_two max_three min_three max_four min_four   -- for this text's walks alone
set_option linter.unusedVariables false
set_option linter.unusedSimpArgs false
def spec_l09Road.f (a0 : Int) (a1 : Int) : Option (Int) := if 0 ≤ (IntKind.u64.wrap (wrap64 ((wrap64 (Int.tdiv (wrap64 ((mx a0 a1) * (wrap64 ((mx a0 a1) - 1)))) 2)) + (mn a0 a1)))) then (some (shl .i64 1 (IntKind.u64.wrap (wrap64 ((wrap64 (Int.tdiv (wrap64 ((mx a0 a1) * (wrap64 ((mx a0 a1) - 1)))) 2)) + (mn a0 a1)))))) else (none)
end Go.Proofs.Ytjkgjmaldbmgmaa.P
end
section
namespace Go.Proofs.Ytjkgjmaldbmgmaa.P
open Go.RowKit Go.Proofs.YtjkgjmaldbmgmaaW.PrintWords Go.Proofs.YtjkgjmaldbmgmaaW.PrintLast Go.Proofs.YtjkgjmaldbmgmaaW.PrintMore
attribute [local go_sem] max2_int min2_int max_two min_two max_three min_three max_four min_four   -- for this text's walks alone
set_option linter.unusedVariables false
set_option linter.unusedSimpArgs false
def spec_l09Near.f (a0_0 : Int) (a0_1 : Int) (a1 : Int) (a2 : Int) : Option (Bool) := if a1 = a2 then (some true) else ((spec_l09Road.f a1 a2).bind fun t102 => (some ((Go.bits .and .i64 a0_1 t102) != 0)))
end Go.Proofs.Ytjkgjmaldbmgmaa.P
end
section
namespace Go.Proofs.Ytjkgjmaldbmgmaa.P
open Go.RowKit Go.Proofs.YtjkgjmaldbmgmaaW.PrintWords Go.Proofs.YtjkgjmaldbmgmaaW.PrintLast Go.Proofs.YtjkgjmaldbmgmaaW.PrintMore
attribute [local go_sem] max2_int min2_int max_two min_two max_three min_three max_four min_four   -- for this text's walks alone
set_option linter.unusedVariables false
set_option linter.unusedSimpArgs false
def spec_l09Route.l0 : Nat → List Int → Int → Int → Int → Int → Option (Bool)
  | 0, _, _, _, _, _ => none
  | k + 1, x1, x8, x9, x102000, x102001 => if x9 < x8 then (if (x1.length : Int) = 0 then (none) else (if 0 ≤ (Int.tmod (wrap64 (x9 + 1)) (x1.length : Int)) then (if (Int.tmod (wrap64 (x9 + 1)) (x1.length : Int)) < (x1.length : Int) then (if 0 ≤ x9 then (if x9 < (x1.length : Int) then (if (rd x1 x9) < 0 then (some false) else (if (rd x1 (Int.tmod (wrap64 (x9 + 1)) (x1.length : Int))) < 0 then (some false) else ((spec_l09Near.f x102000 x102001 (rd x1 x9) (rd x1 (Int.tmod (wrap64 (x9 + 1)) (x1.length : Int)))).bind fun t105 => (if t105 = true then (spec_l09Route.l0 k x1 x8 (wrap64 (x9 + 1)) x102000 x102001) else (some false))))) else (none)) else (none)) else (none)) else (none))) else (some true)
def spec_l09Route.f (k : Nat) (a0_0 : Int) (a0_1 : Int) (l1 : List Int) : Option (Bool) := spec_l09Route.l0 k l1 (l1.length : Int) 0 a0_0 a0_1
theorem spec_l09Route.mono_l : ∀ k, (∀ y0 y1 y2 y3 y4, LeO (spec_l09Route.l0 k y0 y1 y2 y3 y4) (spec_l09Route.l0 (k + 1) y0 y1 y2 y3 y4))
  | 0 => fun _ _ _ _ _ r h => by simp [spec_l09Route.l0] at h
  | k + 1 => by
    have ih0 := spec_l09Route.mono_l k
    · intro y0 y1 y2 y3 y4
      unfold spec_l09Route.l0
      repeat' first
      | (with_reducible exact ih0 _ _ _ _ _)
      | (with_reducible exact LeO.refl _)
      | (with_reducible exact LeO.none _)
      | (with_reducible refine LeO.ite ?_ ?_)
      | (with_reducible refine LeO.bind ?_ (fun _ => ?_))
      | exact ih0 _ _ _ _ _
      | exact LeO.none _
      | refine LeO.ite ?_ ?_
      | refine LeO.bind ?_ (fun _ => ?_)
theorem spec_l09Route.mono : ∀ a0 a1 a2 k, LeO (spec_l09Route.f k a0 a1 a2) (spec_l09Route.f (k + 1) a0 a1 a2) := by
  intro a0 a1 a2 k
  have ih0 := spec_l09Route.mono_l k
  unfold spec_l09Route.f
  repeat' first
      | (with_reducible exact ih0 _ _ _ _ _)
      | (with_reducible exact LeO.refl _)
      | (with_reducible exact LeO.none _)
      | (with_reducible refine LeO.ite ?_ ?_)
      | (with_reducible refine LeO.bind ?_ (fun _ => ?_))
      | exact ih0 _ _ _ _ _
      | exact LeO.none _
      | refine LeO.ite ?_ ?_
      | refine LeO.bind ?_ (fun _ => ?_)
end Go.Proofs.Ytjkgjmaldbmgmaa.P
end
section
namespace Go.Proofs.Ytjkgjmaldbmgmaa.Pure
open Go.RowKit Go.Proofs.Ytjkgjmaldbmgmaa.P Go.Proofs.YtjkgjmaldbmgmaaW.PrintWords Go.Proofs.YtjkgjmaldbmgmaaW.PrintLast Go.Proofs.YtjkgjmaldbmgmaaW.PrintMore
set_option linter.unusedVariables false
set_option linter.unusedSimpArgs false
theorem tmod_nat (m n : Nat) : Int.tmod (m : Int) (n : Int) = ((m % n : Nat) : Int) := rfl
end Go.Proofs.Ytjkgjmaldbmgmaa.Pure
end
section
namespace Go.Proofs.Ytjkgjmaldbmgmaa.Pure
open Go.RowKit Go.Proofs.Ytjkgjmaldbmgmaa.P Go.Proofs.YtjkgjmaldbmgmaaW.PrintWords Go.Proofs.YtjkgjmaldbmgmaaW.PrintLast Go.Proofs.YtjkgjmaldbmgmaaW.PrintMore
set_option linter.unusedVariables false
set_option linter.unusedSimpArgs false
theorem rd_set {l : List Int} {b i : Nat} {x : Int} (hb : b < l.length) : rd (l.set b x) (i : Nat) = if i = b then x else rd l (i : Nat) := by
  simp only [rd, Int.toNat_natCast, List.getD_eq_getElem?_getD, List.getElem?_set]
  by_cases h : b = i
  · subst h; simp [hb]
  · rw [if_neg h, if_neg (fun e => h e.symm)]
end Go.Proofs.Ytjkgjmaldbmgmaa.Pure
end
section
namespace Go.Proofs.Ytjkgjmaldbmgmaa.Pure
open Go.RowKit Go.Proofs.Ytjkgjmaldbmgmaa.P Go.Proofs.YtjkgjmaldbmgmaaW.PrintWords Go.Proofs.YtjkgjmaldbmgmaaW.PrintLast Go.Proofs.YtjkgjmaldbmgmaaW.PrintMore
set_option linter.unusedVariables false
set_option linter.unusedSimpArgs false
/-- the slots of jobs by earliest deadlines: the choice in a slot -/
def pick1 (left due : List Int) (best : Int) (i : Nat) : Int :=
  if rd left i > 0 then (if best < 0 then (i : Int) else if rd due i < rd due best then (i : Int) else best) else best
def pickGo (L P D : List Int) (slot : Int) : Nat → Nat → List Int → List Int → Int → List Int × List Int × Int
  | 0, _, left, due, best => (left, due, best)
  | d + 1, i, left, due, best =>
    if Int.tmod slot (rd P i) = 0 then pickGo L P D slot d (i + 1) (left.set i (rd L i)) (due.set i (slot + rd D i)) (pick1 (left.set i (rd L i)) (due.set i (slot + rd D i)) best i)
    else pickGo L P D slot d (i + 1) left due (pick1 left due best i)
structure SInv (k : Nat) (left due : List Int) : Prop where
  len : left.length = k
  len2 : due.length = k
  bnd : ∀ m : Nat, m < k → 0 ≤ rd left m ∧ rd left m ≤ 20
theorem SInv.set {k : Nat} {left due : List Int} (h : SInv k left due) {i : Nat} (hi : i < k) {x : Int} (hx : 0 ≤ x ∧ x ≤ 20) (y : Int) : SInv k (left.set i x) (due.set i y) :=
  ⟨by rw [List.length_set, h.len], by rw [List.length_set, h.len2], fun m hm => by
    rw [rd_set (by rw [h.len]; exact hi)]
    split
    · exact hx
    · exact h.bnd m hm⟩
theorem SInv.setL {k : Nat} {left due : List Int} (h : SInv k left due) {i : Nat} (hi : i < k) {x : Int} (hx : 0 ≤ x ∧ x ≤ 20) : SInv k (left.set i x) due :=
  ⟨by rw [List.length_set, h.len], h.len2, fun m hm => by
    rw [rd_set (by rw [h.len]; exact hi)]
    split
    · exact hx
    · exact h.bnd m hm⟩
/-- the best one of the first tasks -/
def Best (left due : List Int) (i : Nat) (best : Int) : Prop :=
  (best = -1 ∧ ∀ m : Nat, m < i → rd left m ≤ 0) ∨ ∃ b : Nat, best = (b : Int) ∧ b < i ∧ rd left b > 0 ∧ ∀ m : Nat, m < i → rd left m > 0 → rd due b ≤ rd due m
theorem Best.next {left due : List Int} {i : Nat} {best : Int} (h : Best left due i best) : Best left due (i + 1) (pick1 left due best i) := by
  unfold pick1
  rcases h with ⟨rfl, h⟩ | ⟨b, rfl, hb, h1, h2⟩
  · by_cases c : rd left i > 0
    · rw [if_pos c, if_pos (by omega)]
      refine .inr ⟨i, rfl, by omega, c, fun m hm hp => ?_⟩
      by_cases e : m = i
      · subst e; omega
      · have := h m (by omega); omega
    · rw [if_neg c]
      refine .inl ⟨rfl, fun m hm => ?_⟩
      by_cases e : m = i
      · subst e; omega
      · exact h m (by omega)
  · by_cases c : rd left i > 0
    · rw [if_pos c, if_neg (by omega)]
      by_cases c2 : rd due i < rd due b
      · rw [if_pos c2]
        refine .inr ⟨i, rfl, by omega, c, fun m hm hp => ?_⟩
        by_cases e : m = i
        · subst e; omega
        · have := h2 m (by omega) hp; omega
      · rw [if_neg c2]
        refine .inr ⟨b, rfl, by omega, h1, fun m hm hp => ?_⟩
        by_cases e : m = i
        · subst e; omega
        · exact h2 m (by omega) hp
    · rw [if_neg c]
      refine .inr ⟨b, rfl, by omega, h1, fun m hm hp => ?_⟩
      by_cases e : m = i
      · subst e; omega
      · exact h2 m (by omega) hp
theorem Best.congr {left due left' due' : List Int} {i : Nat} {best : Int} (h : Best left due i best) (e : ∀ m : Nat, m < i → rd left' m = rd left m) (e2 : ∀ m : Nat, m < i → rd due' m = rd due m) : Best left' due' i best := by
  rcases h with ⟨rfl, h⟩ | ⟨b, rfl, hb, h1, h2⟩
  · exact .inl ⟨rfl, fun m hm => by rw [e m hm]; exact h m hm⟩
  · exact .inr ⟨b, rfl, hb, by rw [e b hb]; exact h1, fun m hm hp => by rw [e2 b hb, e2 m hm]; rw [e m hm] at hp; exact h2 m hm hp⟩
theorem Best.range {left due : List Int} {i : Nat} {best : Int} (h : Best left due i best) : -1 ≤ best ∧ best < i := by
  rcases h with ⟨rfl, h⟩ | ⟨b, rfl, hb, h1, h2⟩ <;> omega
/-- what a slot's choice comes to -/
structure Picked (L P D : List Int) (slot : Int) (k : Nat) (left due : List Int) (r : List Int × List Int × Int) : Prop where
  inv : SInv k r.1 r.2.1
  left : ∀ m : Nat, m < k → rd r.1 m = if Int.tmod slot (rd P m) = 0 then rd L m else rd left m
  due : ∀ m : Nat, m < k → rd r.2.1 m = if Int.tmod slot (rd P m) = 0 then slot + rd D m else rd due m
  best : Best r.1 r.2.1 k r.2.2
theorem pickGo_ok (L P D : List Int) (h : isJobs L P D = true) (slot : Int) (left0 due0 : List Int) : ∀ (d i : Nat) (left due : List Int) (best : Int), i + d = L.length → SInv L.length left due → Best left due i best →
    (∀ m : Nat, m < i → rd left m = if Int.tmod slot (rd P m) = 0 then rd L m else rd left0 m) → (∀ m : Nat, i ≤ m → rd left m = rd left0 m) →
    (∀ m : Nat, m < i → rd due m = if Int.tmod slot (rd P m) = 0 then slot + rd D m else rd due0 m) → (∀ m : Nat, i ≤ m → rd due m = rd due0 m) →
    Picked L P D slot L.length left0 due0 (pickGo L P D slot d i left due best) := by
  intro d
  induction d with
  | zero =>
    intro i left due best hi hs hb h1 h2 h3 h4
    obtain rfl : i = L.length := by omega
    exact ⟨hs, h1, h3, hb⟩
  | succ d ih =>
    intro i left due best hi hs hb h1 h2 h3 h4
    have hat := isJobs_at h (i := i) (by omega)
    rw [pickGo]
    by_cases c : Int.tmod slot (rd P i) = 0
    · rw [if_pos c]
      have r1 : ∀ m : Nat, rd (left.set i (rd L i)) m = if m = i then rd L i else rd left m := fun m => rd_set (by rw [hs.len]; omega)
      have r2 : ∀ m : Nat, rd (due.set i (slot + rd D i)) m = if m = i then slot + rd D i else rd due m := fun m => rd_set (by rw [hs.len2]; omega)
      refine ih _ _ _ _ (by omega) (hs.set (by omega) (by omega) _) (Best.next (hb.congr (fun m hm => by rw [r1, if_neg (by omega)]) (fun m hm => by rw [r2, if_neg (by omega)]))) ?_ ?_ ?_ ?_
      · intro m hm
        rw [r1]
        by_cases e : m = i
        · subst e; rw [if_pos rfl, if_pos c]
        · rw [if_neg e]; exact h1 m (by omega)
      · intro m hm
        rw [r1, if_neg (by omega)]; exact h2 m (by omega)
      · intro m hm
        rw [r2]
        by_cases e : m = i
        · subst e; rw [if_pos rfl, if_pos c]
        · rw [if_neg e]; exact h3 m (by omega)
      · intro m hm
        rw [r2, if_neg (by omega)]; exact h4 m (by omega)
    · rw [if_neg c]
      refine ih _ _ _ _ (by omega) hs (Best.next hb) ?_ ?_ ?_ ?_
      · intro m hm
        by_cases e : m = i
        · subst e; rw [if_neg c]; exact h2 m (by omega)
        · exact h1 m (by omega)
      · intro m hm; exact h2 m (by omega)
      · intro m hm
        by_cases e : m = i
        · subst e; rw [if_neg c]; exact h4 m (by omega)
        · exact h3 m (by omega)
      · intro m hm; exact h4 m (by omega)
theorem pick_ok (L P D : List Int) (h : isJobs L P D = true) (slot : Int) (left due : List Int) (hs : SInv L.length left due) : Picked L P D slot L.length left due (pickGo L P D slot L.length 0 left due (-1)) :=
  pickGo_ok L P D h slot left due L.length 0 left due (-1) (by omega) hs (.inl ⟨rfl, fun m hm => by omega⟩) (fun m hm => by omega) (fun m _ => rfl) (fun m hm => by omega) (fun m _ => rfl)
/-- the first task from i that is late at a slot, or -1 -/
def lateGo (left due : List Int) (slot : Int) : Nat → Nat → Int
  | 0, _ => -1
  | d + 1, i => if rd left i > 0 ∧ rd due i = slot then (i : Int) else lateGo left due slot d (i + 1)
theorem lateGo_neg (left due : List Int) (slot : Int) : ∀ d i : Nat, (lateGo left due slot d i < 0 ↔ ∀ m : Nat, i ≤ m → m < i + d → ¬ (rd left m > 0 ∧ rd due m = slot)) ∧ (lateGo left due slot d i = -1 ∨ 0 ≤ lateGo left due slot d i) := by
  intro d
  induction d with
  | zero => intro i; exact ⟨by simp [lateGo]; intro m h1 h2; omega, .inl rfl⟩
  | succ d ih =>
    intro i
    rw [lateGo]
    by_cases c : rd left i > 0 ∧ rd due i = slot
    · rw [if_pos c]
      exact ⟨⟨fun h => by omega, fun h => absurd c (h i (by omega) (by omega))⟩, .inr (by omega)⟩
    · rw [if_neg c]
      have := ih (i + 1)
      refine ⟨⟨fun h m h1 h2 => ?_, fun h => this.1.2 fun m h1 h2 => h m (by omega) (by omega)⟩, this.2⟩
      by_cases e : m = i
      · subst e; exact c
      · exact this.1.1 h m (by omega) (by omega)
/-- one slot: releases, the choice, and one unit of work -/
def workOn (left : List Int) (best : Int) : List Int := if best ≥ 0 then left.set best.toNat (rd left best - 1) else left
def slotsGo (L P D : List Int) : Nat → Int → List Int → List Int → List Int → List Int × Int × Int
  | 0, slot, left, due, out => if lateGo left due slot L.length 0 ≥ 0 then (out, slot, lateGo left due slot L.length 0) else (out, -1, -1)
  | d + 1, slot, left, due, out =>
    if lateGo left due slot L.length 0 ≥ 0 then (out, slot, lateGo left due slot L.length 0)
    else slotsGo L P D d (slot + 1) (workOn (pickGo L P D slot L.length 0 left due (-1)).1 (pickGo L P D slot L.length 0 left due (-1)).2.2) (pickGo L P D slot L.length 0 left due (-1)).2.1 (out ++ [(pickGo L P D slot L.length 0 left due (-1)).2.2])
theorem workOn_inv {k : Nat} {left due : List Int} {best : Int} (h : SInv k left due) (hb : Best left due k best) : SInv k (workOn left best) due := by
  unfold workOn
  rcases hb with ⟨rfl, hb⟩ | ⟨b, rfl, hb, h1, h2⟩
  · rw [if_neg (by omega)]; exact h
  · rw [if_pos (by omega), Int.toNat_natCast]
    have := h.bnd b hb
    exact h.setL hb (by omega)
end Go.Proofs.Ytjkgjmaldbmgmaa.Pure
end
section
namespace Go.Proofs.Ytjkgjmaldbmgmaa.Pure
open Go.RowKit Go.Proofs.Ytjkgjmaldbmgmaa.P Go.Proofs.YtjkgjmaldbmgmaaW.PrintWords Go.Proofs.YtjkgjmaldbmgmaaW.PrintLast Go.Proofs.YtjkgjmaldbmgmaaW.PrintMore
set_option linter.unusedVariables false
set_option linter.unusedSimpArgs false
theorem Slots_l2 (L P D : List Int) (h : isJobs L P D = true) (whole slot : Int) (hs0 : 0 ≤ slot ∧ slot ≤ 240) (out : List Int) (R : List Int × Int × Int) : ∀ (d i : Nat) (left due : List Int) (best : Int), i + d = L.length → SInv L.length left due → -1 ≤ best ∧ best < i →
    (∀ left' due' best', pickGo L P D slot d i left due best = (left', due', best') → Ev (fun k => spec_l04Slots.l2 k whole out left' due' slot best' (L.length : Int) L P D) R) →
    Ev (fun k => spec_l04Slots.l2 k whole out left due slot best (i : Int) L P D) R := by
  have hlen := isJobs_len h
  intro d
  induction d with
  | zero =>
    intro i left due best hi hs hb hR
    obtain rfl : i = L.length := by omega
    exact hR _ _ _ rfl
  | succ d ih =>
    intro i left due best hi hs hb hR
    have hat := isJobs_at h (i := i) (by omega)
    have hl1 := hs.len
    have hl2 := hs.len2
    refine Ev.step (fun k => by rw [spec_l04Slots.l2]) ?_
    refine ev_pos (by omega) (ev_pos (by omega) (ev_pos (by omega) (ev_neg (by omega) ?_)))
    rw [pickGo] at hR
    by_cases c : Int.tmod slot (rd P i) = 0
    · rw [if_pos c] at hR
      refine ev_pos c (ev_pos (by omega) (ev_fix rfl (ev_pos (by omega) (ev_pos (by omega) (ev_fix rfl ?_)))))
      rw [Int.toNat_natCast, wrap_id (x := slot + rd D i) (by omega) (by omega), wrap_succ (by omega)]
      have hs' := hs.set (i := i) (by omega) (x := rd L i) (by omega) (slot + rd D i)
      have hgo : ∀ b', pick1 (left.set i (rd L i)) (due.set i (slot + rd D i)) best i = b' → -1 ≤ b' ∧ b' < ((i + 1 : Nat) : Int) → Ev (fun k => spec_l04Slots.l2 k whole out (left.set i (rd L i)) (due.set i (slot + rd D i)) slot b' ((i + 1 : Nat) : Int) L P D) R := by
        intro b' hb' hr
        rw [hb'] at hR
        exact ih (i + 1) _ _ b' (by omega) hs' hr hR
      by_cases c1 : rd (left.set i (rd L i)) i > 0
      · refine ev_pos c1 ?_
        by_cases c2 : best < 0
        · exact ev_pos c2 (hgo _ (by rw [pick1, if_pos c1, if_pos c2]) (by omega))
        · refine ev_neg c2 (ev_pos (by omega) (ev_pos (by omega) ?_))
          by_cases c3 : rd (due.set i (slot + rd D i)) i < rd (due.set i (slot + rd D i)) best
          · exact ev_pos c3 (hgo _ (by rw [pick1, if_pos c1, if_neg c2, if_pos c3]) (by omega))
          · exact ev_neg c3 (hgo _ (by rw [pick1, if_pos c1, if_neg c2, if_neg c3]) (by omega))
      · exact ev_neg c1 (hgo _ (by rw [pick1, if_neg c1]) (by omega))
    · rw [if_neg c] at hR
      refine ev_neg c ?_
      rw [wrap_succ (by omega)]
      have hgo : ∀ b', pick1 left due best i = b' → -1 ≤ b' ∧ b' < ((i + 1 : Nat) : Int) → Ev (fun k => spec_l04Slots.l2 k whole out left due slot b' ((i + 1 : Nat) : Int) L P D) R := by
        intro b' hb' hr
        rw [hb'] at hR
        exact ih (i + 1) _ _ b' (by omega) hs hr hR
      by_cases c1 : rd left i > 0
      · refine ev_pos c1 ?_
        by_cases c2 : best < 0
        · exact ev_pos c2 (hgo _ (by rw [pick1, if_pos c1, if_pos c2]) (by omega))
        · refine ev_neg c2 (ev_pos (by omega) (ev_pos (by omega) (ev_pos (by omega) ?_)))
          by_cases c3 : rd due i < rd due best
          · exact ev_pos c3 (hgo _ (by rw [pick1, if_pos c1, if_neg c2, if_pos c3]) (by omega))
          · exact ev_neg c3 (hgo _ (by rw [pick1, if_pos c1, if_neg c2, if_neg c3]) (by omega))
      · exact ev_neg c1 (hgo _ (by rw [pick1, if_neg c1]) (by omega))
theorem Slots_l1 (L P D : List Int) (whole slot : Int) (out left due : List Int) (hs : SInv L.length left due) (hk : L.length ≤ 8) (R : List Int × Int × Int) : ∀ d i : Nat, i + d = L.length →
    (lateGo left due slot d i < 0 → Ev (fun k => spec_l04Slots.l1 k whole out left due slot (L.length : Int) L P D) R) → (0 ≤ lateGo left due slot d i → R = (out, slot, lateGo left due slot d i)) →
    Ev (fun k => spec_l04Slots.l1 k whole out left due slot (i : Int) L P D) R := by
  have hl1 := hs.len
  have hl2 := hs.len2
  intro d
  induction d with
  | zero =>
    intro i hi h1 h2
    obtain rfl : i = L.length := by omega
    exact h1 (by simp [lateGo])
  | succ d ih =>
    intro i hi h1 h2
    refine Ev.step (fun k => by rw [spec_l04Slots.l1]) ?_
    refine ev_pos (by omega) (ev_pos (by omega) ?_)
    rw [wrap_succ (by omega)]
    rw [lateGo] at h1 h2
    by_cases c1 : rd left i > 0
    · refine ev_pos c1 (ev_pos (by omega) ?_)
      by_cases c2 : rd due i = slot
      · rw [if_pos ⟨c1, c2⟩] at h2
        exact ev_pos c2 (ev_is (by rw [h2 (by omega)]))
      · rw [if_neg (fun h => c2 h.2)] at h1 h2
        exact ev_neg c2 (ih _ (by omega) h1 h2)
    · rw [if_neg (fun h => c1 h.1)] at h1 h2
      exact ev_neg c1 (ih _ (by omega) h1 h2)
theorem Slots_l0 (L P D : List Int) (h : isJobs L P D = true) (whole : Int) (hw : whole ≤ 240) : ∀ (d : Nat) (slot : Int) (left due out : List Int), slot + d = whole → 0 ≤ slot → out.length = slot → SInv L.length left due →
    Ev (fun k => spec_l04Slots.l0 k whole out left due slot L P D) (slotsGo L P D d slot left due out) := by
  have hlen := isJobs_len h
  intro d
  induction d with
  | zero =>
    intro slot left due out hd h0 ho hs
    have hl1 := hs.len
    refine Ev.step (fun k => by rw [spec_l04Slots.l0]) ?_
    refine ev_pos (by omega) (Slots_l1 L P D whole slot out left due hs (by omega) _ L.length 0 (by omega) ?_ ?_)
    · intro hneg
      rw [slotsGo, if_neg (by omega)]
      exact Ev.step (fun k => by rw [spec_l04Slots.l1]) (ev_neg (by omega) (ev_pos (by omega) (ev_now _)))
    · intro hpos
      rw [slotsGo, if_pos (by omega)]
  | succ d ih =>
    intro slot left due out hd h0 ho hs
    have hl1 := hs.len
    refine Ev.step (fun k => by rw [spec_l04Slots.l0]) ?_
    refine ev_pos (by omega) (Slots_l1 L P D whole slot out left due hs (by omega) _ L.length 0 (by omega) ?_ ?_)
    · intro hneg
      rw [slotsGo, if_neg (by omega)]
      have hp := pick_ok L P D h slot left due hs
      refine Ev.step (fun k => by rw [spec_l04Slots.l1]) ?_
      refine ev_neg (by omega) (ev_neg (by omega) (Slots_l2 L P D h whole slot (by omega) out _ L.length 0 left due (-1) (by omega) hs (by omega) ?_))
      intro left' due' best' he
      rw [he] at hp ⊢
      have hi : SInv L.length left' due' := hp.inv
      have hb : Best left' due' L.length best' := hp.best
      have hw : SInv L.length (workOn left' best') due' := workOn_inv hi hb
      show Ev _ (slotsGo L P D d (slot + 1) (workOn left' best') due' (out ++ [best']))
      have hl := hi.len
      refine Ev.step (fun k => by rw [spec_l04Slots.l2]) (ev_neg (by omega) ?_)
      rw [wrap_id (x := slot + 1) (by omega) (by omega)]
      have ih := ih (slot + 1) _ due' (out ++ [best']) (by omega) (by omega) (by rw [List.length_append, List.length_singleton]; omega) hw
      rcases hb with ⟨hb, _⟩ | ⟨b, hb, hbk, hb1, _⟩
      · refine ev_neg (by omega) (ev_pos (by omega) ?_)
        rw [workOn, if_neg (by omega)] at ih ⊢
        exact ih
      · have hbd := hi.bnd b hbk
        subst hb
        refine ev_pos (by omega) (ev_pos (by omega) (ev_pos (by omega) (ev_pos (by omega) ?_)))
        rw [workOn, if_pos (by omega)] at ih ⊢
        rw [wrap_id (x := rd left' b - 1) (by omega) (by omega)]
        exact ih
    · intro hpos
      rw [slotsGo, if_pos (by omega)]
theorem SInv.start (k : Nat) : SInv k (List.replicate k 0) (List.replicate k 0) :=
  ⟨by simp, by simp, fun m hm => by rw [rd_nat (by simpa using hm)]; simp⟩
/-- the reference's slots -/
def slotsOf (L P D : List Int) : List Int × Int × Int := slotsGo L P D (lcmN 1 P) 0 (List.replicate L.length 0) (List.replicate L.length 0) []
theorem l04Slots_ev (L P D : List Int) (h : isJobs L P D = true) (hw : lcmN 1 P ≤ 240) : Ev (fun k => spec_l04Slots.f k L P D) (slotsOf L P D) := by
  unfold spec_l04Slots.f
  obtain ⟨r, hr, h3, _⟩ := l04Whole_ev L P D h
  rw [h3 hw] at hr
  have hlen := isJobs_len h
  refine ev_bind hr (ev_pos (by omega) (ev_pos (by omega) ?_))
  rw [Int.toNat_natCast]
  exact Slots_l0 L P D h _ (by omega) (lcmN 1 P) 0 _ _ [] (by omega) (by omega) (by simp) (SInv.start _)
end Go.Proofs.Ytjkgjmaldbmgmaa.Pure
end
section
namespace Go.Proofs.Ytjkgjmaldbmgmaa.Pure
open Go.RowKit Go.Proofs.Ytjkgjmaldbmgmaa.P Go.Proofs.YtjkgjmaldbmgmaaW.PrintWords Go.Proofs.YtjkgjmaldbmgmaaW.PrintLast Go.Proofs.YtjkgjmaldbmgmaaW.PrintMore
set_option linter.unusedVariables false
set_option linter.unusedSimpArgs false
def stAt (L P D : List Int) : Nat → List Int × List Int
  | 0 => (List.replicate L.length 0, List.replicate L.length 0)
  | t + 1 => (workOn (pickGo L P D t L.length 0 (stAt L P D t).1 (stAt L P D t).2 (-1)).1 (pickGo L P D t L.length 0 (stAt L P D t).1 (stAt L P D t).2 (-1)).2.2, (pickGo L P D t L.length 0 (stAt L P D t).1 (stAt L P D t).2 (-1)).2.1)
def pkAt (L P D : List Int) (t : Nat) : List Int × List Int × Int := pickGo L P D t L.length 0 (stAt L P D t).1 (stAt L P D t).2 (-1)
theorem stAt_inv {L P D : List Int} (h : isJobs L P D = true) : ∀ t, SInv L.length (stAt L P D t).1 (stAt L P D t).2 := by
  intro t
  induction t with
  | zero => exact SInv.start _
  | succ t ih =>
    have hp := pick_ok L P D h t _ _ ih
    exact workOn_inv hp.inv hp.best
theorem tmod_zero {x : Int} {t : Nat} (hx : 1 ≤ x) : (Int.tmod (t : Int) x = 0) = (t % x.toNat = 0) := by
  obtain ⟨n, rfl⟩ : ∃ n : Nat, x = n := ⟨x.toNat, by omega⟩
  rw [tmod_nat, Int.toNat_natCast]
  exact propext ⟨fun h => by omega, fun h => by omega⟩
theorem edf_of {L P D : List Int} (h : isJobs L P D = true) : Edf L.length (fun i => (rd L i).toNat) (fun i => (rd P i).toNat) (fun i => (rd D i).toNat)
    (fun t i => rd (stAt L P D t).1 i) (fun t i => rd (stAt L P D t).2 i) (fun t i => rd (pkAt L P D t).1 i) (fun t i => rd (pkAt L P D t).2.1 i) (fun t => (pkAt L P D t).2.2) := by
  have hp : ∀ t : Nat, Picked L P D t L.length (stAt L P D t).1 (stAt L P D t).2 (pkAt L P D t) := fun t => pick_ok L P D h t _ _ (stAt_inv h t)
  refine ⟨?_, ?_, ?_, ?_, ?_, ?_, ?_⟩
  · intro i hi
    have := isJobs_at h hi
    omega
  · intro i hi
    show rd (List.replicate L.length 0) i = 0
    rw [rd_nat (by simpa using hi)]; simp
  · intro t i hi
    have h1 := isJobs_at h hi
    have := (hp t).left i hi
    simp only [tmod_zero h1.1.1] at this
    rw [this]
    split <;> omega
  · intro t i hi
    have h1 := isJobs_at h hi
    have := (hp t).due i hi
    simp only [tmod_zero h1.1.1] at this
    rw [this]
    split <;> omega
  · intro t
    exact (hp t).best
  · intro t i hi
    show rd (workOn (pkAt L P D t).1 (pkAt L P D t).2.2) i = rd (pkAt L P D t).1 i - hit _ t i
    have hl := (hp t).inv.len
    unfold workOn hit
    show _ = _ - if (pkAt L P D t).2.2 = (i : Int) then 1 else 0
    rcases (hp t).best with ⟨h1, _⟩ | ⟨b, h1, h2, _⟩
    · rw [h1, if_neg (by omega), if_neg (by omega)]; omega
    · rw [h1, if_pos (by omega), Int.toNat_natCast, rd_set (by omega)]
      by_cases e : i = b
      · subst e; rw [if_pos rfl, if_pos rfl]
      · rw [if_neg e, if_neg (by omega)]; omega
  · intro t i hi
    rfl
theorem slotsGo_neg (L P D : List Int) : ∀ (d t : Nat) (out : List Int), (slotsGo L P D d t (stAt L P D t).1 (stAt L P D t).2 out).2.2 < 0 ↔
    ∀ u : Nat, t ≤ u → u ≤ t + d → lateGo (stAt L P D u).1 (stAt L P D u).2 u L.length 0 < 0 := by
  intro d
  induction d with
  | zero =>
    intro t out
    rw [slotsGo]
    split
    · next h => exact ⟨fun h2 => by simp only at h2; omega, fun h2 => by have := h2 t (by omega) (by omega); omega⟩
    · next h => exact ⟨fun _ u h1 h2 => by rw [show u = t by omega]; omega, fun _ => by simp⟩
  | succ d ih =>
    intro t out
    rw [slotsGo]
    split
    · next h => exact ⟨fun h2 => by simp only at h2; omega, fun h2 => by have := h2 t (by omega) (by omega); omega⟩
    · next h =>
      have := ih (t + 1) (out ++ [(pkAt L P D t).2.2])
      rw [show ((t + 1 : Nat) : Int) = (t : Int) + 1 by omega] at this
      refine Iff.trans this ⟨fun h2 u h3 h4 => ?_, fun h2 u h3 h4 => h2 u (by omega) (by omega)⟩
      by_cases e : u = t
      · subst e; omega
      · exact h2 u (by omega) (by omega)
theorem dmd_dem1 {L P D : List Int} (h : isJobs L P D = true) (n i : Nat) (hi : i < L.length) : dmd (fun i => (rd L i).toNat) (fun i => (rd P i).toNat) (fun i => (rd D i).toNat) n i = dem1 L P D n i := by
  have h1 := isJobs_at h hi
  unfold dmd dem1
  simp only
  by_cases c : (n : Int) ≥ rd D i
  · rw [if_pos c, if_pos (by omega)]
    obtain ⟨l, hl⟩ : ∃ l : Nat, rd L i = l := ⟨(rd L i).toNat, by omega⟩
    obtain ⟨p, hp⟩ : ∃ p : Nat, rd P i = p := ⟨(rd P i).toNat, by omega⟩
    obtain ⟨q, hq⟩ : ∃ q : Nat, rd D i = q := ⟨(rd D i).toNat, by omega⟩
    rw [hl, hp, hq, Int.toNat_natCast, Int.toNat_natCast, Int.toNat_natCast, show (n : Int) - (q : Int) = ((n - q : Nat) : Int) by omega, tdiv_nat]
    rfl
  · rw [if_neg c, if_neg (by omega)]
theorem sum_dem {L P D : List Int} (h : isJobs L P D = true) (n : Nat) : ∀ k, k ≤ L.length → sumTo (dmd (fun i => (rd L i).toNat) (fun i => (rd P i).toNat) (fun i => (rd D i).toNat) n) k = demTo L P D n k := by
  intro k
  induction k with
  | zero => intro _; rfl
  | succ k ih => intro hk; rw [sumTo, demTo, ih (by omega), dmd_dem1 h n k (by omega)]
theorem mn_le (a b : Int) : (0 ≤ mn a b) = (0 ≤ a ∧ 0 ≤ b) := by
  unfold mn
  split <;> exact propext (by omega)
theorem roomGo_nonneg (L P D : List Int) : ∀ (d : Nat) (least : Int) (n : Nat), 0 ≤ roomGo L P D d least n ↔ 0 ≤ least ∧ ∀ m : Nat, n ≤ m → m < n + d → demTo L P D m L.length ≤ m := by
  intro d
  induction d with
  | zero => intro least n; rw [roomGo]; exact ⟨fun h => ⟨h, fun m h1 h2 => by omega⟩, fun h => h.1⟩
  | succ d ih =>
    intro least n
    rw [roomGo]
    have := ih (mn least (n - demTo L P D n L.length)) (n + 1)
    rw [mn_le, show ((n + 1 : Nat) : Int) = (n : Int) + 1 by omega] at this
    refine Iff.trans this ⟨fun ⟨⟨h1, h2⟩, h3⟩ => ⟨h1, fun m h4 h5 => ?_⟩, fun ⟨h1, h2⟩ => ⟨⟨h1, by have := h2 n (by omega) (by omega); omega⟩, fun m h4 h5 => h2 m (by omega) (by omega)⟩⟩
    by_cases e : m = n
    · subst e; omega
    · exact h3 m (by omega) (by omega)
theorem room_iff (L P D : List Int) (M : Nat) (hM : 0 < M) : 0 ≤ roomGo L P D (M - 1) (1 - demTo L P D 1 L.length) 2 ↔ ∀ n : Nat, 1 ≤ n → n ≤ M → demTo L P D n L.length ≤ n := by
  refine Iff.trans (roomGo_nonneg L P D (M - 1) _ 2) ⟨fun ⟨h1, h2⟩ n h3 h4 => ?_, fun h => ⟨by have h9 : demTo L P D 1 L.length ≤ 1 := h 1 (by omega) (by omega); omega, fun m h1 h2 => h m (by omega) (by omega)⟩⟩
  by_cases e : n = 1
  · subst e; show demTo L P D 1 L.length ≤ 1; omega
  · exact h2 n (by omega) (by omega)
theorem meet_iff {L P D : List Int} (h : isJobs L P D = true) : (slotsOf L P D).2.2 < 0 ↔ 0 ≤ roomGo L P D (lcmN 1 P - 1) (1 - demTo L P D 1 L.length) 2 := by
  have hM := (M_le h).1
  rw [room_iff L P D _ hM]
  have hE := (edf_of h).iff (lcmN 1 P)
  refine Iff.trans (slotsGo_neg L P D (lcmN 1 P) 0 []) (Iff.trans ?_ (Iff.trans hE ?_))
  · refine ⟨fun h1 u i hu hi => ?_, fun h1 u _ hu => ?_⟩
    · exact ((lateGo_neg _ _ _ _ _).1.1 (h1 u (by omega) (by omega))) i (by omega) (by omega)
    · exact (lateGo_neg _ _ _ _ _).1.2 fun m _ hm => h1 u m (by omega) (by omega)
  · refine ⟨fun h1 n h2 h3 => ?_, fun h1 n h2 h3 => ?_⟩
    · rw [← sum_dem h n L.length (Nat.le_refl _)]; exact h1 n h2 h3
    · rw [sum_dem h n L.length (Nat.le_refl _)]; exact h1 n h2 h3
theorem dem_whole {L P D : List Int} (h : isJobs L P D = true) : ∀ k, k ≤ L.length → demTo L P D (lcmN 1 P : Nat) k = (numTo L P (lcmN 1 P) k : Nat) := by
  have hM := (M_le h).1
  have hlen := isJobs_len h
  intro k
  induction k with
  | zero => intro _; rfl
  | succ k ih =>
    intro hk
    rw [demTo, numTo, ih (by omega)]
    have h1 := isJobs_at h (i := k) (by omega)
    have hpM : (rd P k).toNat ∣ lcmN 1 P := dvd_lcmN 1 P (rd P k) (by rw [rd_nat (by omega)]; exact List.getElem_mem _)
    have hle := Nat.le_of_dvd hM hpM
    unfold dem1
    rw [if_pos (by omega)]
    obtain ⟨l, hl⟩ : ∃ l : Nat, rd L k = l := ⟨(rd L k).toNat, by omega⟩
    obtain ⟨p, hp⟩ : ∃ p : Nat, rd P k = p := ⟨(rd P k).toNat, by omega⟩
    obtain ⟨q, hq⟩ : ∃ q : Nat, rd D k = q := ⟨(rd D k).toNat, by omega⟩
    rw [hp, Int.toNat_natCast] at hpM hle
    rw [hl, hp, hq, Int.toNat_natCast, Int.toNat_natCast, show (((lcmN 1 P : Nat) : Int)) - (q : Int) = ((lcmN 1 P - q : Nat) : Int) by omega, tdiv_nat]
    have e : (lcmN 1 P - q) / p + 1 = lcmN 1 P / p := by
      obtain ⟨c, hc⟩ := hpM
      have hp0 : 0 < p := by omega
      rw [hc, Nat.mul_div_cancel_left _ hp0]
      have hc0 : 1 ≤ c := by
        rcases Nat.eq_zero_or_pos c with h | h
        · subst h; rw [Nat.mul_zero] at hc; omega
        · exact h
      obtain ⟨c', rfl⟩ : ∃ c', c = c' + 1 := ⟨c - 1, by omega⟩
      rw [Nat.mul_add, Nat.mul_one]
      have : (p * c' + p - q) / p = c' := by
        rw [Nat.div_eq_iff hp0]
        have h3 : p * c' = c' * p := Nat.mul_comm _ _
        omega
      rw [this]
    have e2 : (((lcmN 1 P - q) / p : Nat) : Int) + 1 = ((lcmN 1 P / p : Nat) : Int) := by omega
    rw [e2]
    omega
theorem load_le {L P D : List Int} (h : isJobs L P D = true) (hr : 0 ≤ roomGo L P D (lcmN 1 P - 1) (1 - demTo L P D 1 L.length) 2) : (loadOf L P).1 ≤ (loadOf L P).2 := by
  have hM := (M_le h).1
  rw [room_iff L P D _ hM] at hr
  have := hr (lcmN 1 P) hM (Nat.le_refl _)
  rw [dem_whole h L.length (Nat.le_refl _)] at this
  have h2 : numTo L P (lcmN 1 P) L.length ≤ lcmN 1 P := by omega
  unfold loadOf
  have := Nat.div_le_div_right (c := Nat.gcd (numTo L P (lcmN 1 P) L.length) (lcmN 1 P)) h2
  omega
end Go.Proofs.Ytjkgjmaldbmgmaa.Pure
end
section
namespace Go.Proofs.Ytjkgjmaldbmgmaa.Pure
open Go.RowKit Go.Proofs.Ytjkgjmaldbmgmaa.P Go.Proofs.YtjkgjmaldbmgmaaW.PrintWords Go.Proofs.YtjkgjmaldbmgmaaW.PrintLast Go.Proofs.YtjkgjmaldbmgmaaW.PrintMore
set_option linter.unusedVariables false
set_option linter.unusedSimpArgs false
def meetR (L P D : List Int) : Bool × Int := if shortCode L P D = 0 then (decide ((slotsOf L P D).2.2 < 0), 0) else (false, shortCode L P D)
theorem CanMeet_spec (L P D : List Int) : Ev (fun k => spec_CanMeet.f k L P D) (meetR L P D) := by
  unfold spec_CanMeet.f meetR
  refine ev_bind (l04Code_ev L P D) ?_
  by_cases h : shortCode L P D = 0
  · have ⟨h1, h2⟩ := shortCode_zero h
    rw [if_pos h]
    exact ev_pos h (ev_bind (l04Slots_ev L P D h1 h2) (ev_now _))
  · rw [if_neg h]
    exact ev_neg h (ev_now _)
theorem CanMeet_impl (L P D : List Int) : Ev (fun k => impl_CanMeet.f k L P D) (meetR L P D) := by
  unfold impl_CanMeet.f meetR
  refine ev_bind (jobsCode_short L P D) ?_
  by_cases h : shortCode L P D = 0
  · have ⟨h1, h2⟩ := shortCode_zero h
    rw [if_pos h]
    refine ev_pos h (ev_bind (load_ev L P D h1) (ev_bind (room_ev L P D h1 h2) ?_))
    have hm := meet_iff h1
    by_cases hr : 0 ≤ roomGo L P D (lcmN 1 P - 1) (1 - demTo L P D 1 L.length) 2
    · refine ev_pos hr (ev_is ?_)
      rw [decide_eq_true (load_le h1 hr), decide_eq_true (hm.2 hr)]
    · refine ev_neg hr (ev_is ?_)
      rw [decide_eq_false (fun c => hr (hm.1 c))]
  · rw [if_neg h]
    exact ev_neg h (ev_now _)
theorem FnExactCanMeet : laws_FnExactCanMeet.Pure := by
  intro L P D hL hP hD
  refine ev_rounds (g := fun k => laws_FnExactCanMeet.f k L P D) ?_
  unfold laws_FnExactCanMeet.f
  obtain ⟨r, hr, h⟩ := szJobs_f L P D hL.1 hP.1 hD.1
  refine ev_fix hr ?_
  rcases h with h | ⟨h0, h1, h2, h3⟩
  · exact ev_pos h (ev_now _)
  · refine ev_neg (by omega) (ev_bind (toJobs_ev L P D h1 h2 h3) (ev_bind (CanMeet_spec L P D) (ev_bind (toJobs_ev L P D h1 h2 h3) (ev_bind (CanMeet_impl L P D) ?_))))
    refine ev_neg (by simp) ?_
    rw [bne_self_eq_false]
    refine Ev.step (fun k => by rw [laws_FnExactCanMeet.j0]) ?_
    exact ev_neg (by simp) (ev_bind (toJobs_ev L P D h1 h2 h3) (ev_bind (eqJobs_ev L P D h1 h2 h3) (ev_pos rfl (ev_now _))))
end Go.Proofs.Ytjkgjmaldbmgmaa.Pure
end
section
namespace Go.Proofs.Ytjkgjmaldbmgmaa.fnExactCanMeet
open Go.ChangeShapes Go.WideShapes Go.ChangeAt Go.RowKit Go.Deep Go.Proofs.Ytjkgjmaldbmgmaa.P
open Go.ChangeMaps (open_string shut_string)
set_option linter.unusedVariables false
theorem own : ownKnob Try.prog.godebug = none := by kernel_rfl
theorem laidOut : laidOutB Try.prog = true := by kernel_rfl
end Go.Proofs.Ytjkgjmaldbmgmaa.fnExactCanMeet
end
