/- The program's TurnsByPowers returns what the reference's returns, for all tasks; no condition beside. -/
import Derived.Test.YtjijiaejkcaflaaCFnExactTurnsByPowers6
section
namespace Go.Proofs.Ytjijiaejkcaflaa.P
open Go.RowKit Go.Proofs.YtjijiaejkcaflaaW.PrintWords Go.Proofs.YtjijiaejkcaflaaW.PrintLast Go.Proofs.YtjijiaejkcaflaaW.PrintMore
attribute [local go_sem] max2_int min2_int max_two min_two max_three min_three max_four min_four   -- for this text's walks alone
set_option linter.unusedVariables false
set_option linter.unusedSimpArgs false
set_option maxHeartbeats 8000000 in
set_option maxRecDepth 100000 in
theorem laws_FnExactTurnsByPowers.calls (k : Nat) (A0_0 : Option Addr) (c0_0 : Nat) (l0_0 : List Int) (r : Bool) (w : World) (hr0_0 : Kd.C (Kd.int .i64) w A0_0 l0_0.length l0_0) (hc0_0 : l0_0.length ≤ c0_0) (h : laws_FnExactTurnsByPowers.f k l0_0 = some r) :
    Calls Try.prog 3 #[.agg #[.slice A0_0 l0_0.length c0_0]] w fun e w' => e = .returned (.bool r) ∧ Below w.heap.size w w' := by
  have hu24 := Try.underlying24
  have hu28 := Try.underlying28
  have HR0_0 := Aside0.mk hr0_0
  have HC0_0 := Aside0.mk hc0_0
  clear hr0_0 hc0_0
  have HB := Aside0.mk (Below.refl w.heap.size w)
  have H : ((laws_szTasks.f l0_0 1048576).bind fun t102 => (if t102 < 0 then (some true) else ((laws_toTasks.f k l0_0).bind fun t103 => ((spec_TurnsByPowers.f k t103).bind fun bt106 => ((laws_toTasks.f k l0_0).bind fun t110 => ((impl_TurnsByPowers.f k t110).bind fun bt114 => ((laws_eqInt64S.f k bt114.1 bt106.1).bind fun t118 => (if t118 = true then (laws_FnExactTurnsByPowers.j0 k bt106.1 bt106.2 bt114.1 bt114.2 (bt114.2 != bt106.2) l0_0 t110) else (laws_FnExactTurnsByPowers.j0 k bt106.1 bt106.2 bt114.1 bt114.2 true l0_0 t110))))))))) = some r := h
  clear h
  replace H := Option.bind_eq_some_iff.mp H
  obtain ⟨t102, A20, H⟩ := H
  replace H : (if t102 < 0 then (some true) else ((laws_toTasks.f k l0_0).bind fun t103 => ((spec_TurnsByPowers.f k t103).bind fun bt106 => ((laws_toTasks.f k l0_0).bind fun t110 => ((impl_TurnsByPowers.f k t110).bind fun bt114 => ((laws_eqInt64S.f k bt114.1 bt106.1).bind fun t118 => (if t118 = true then (laws_FnExactTurnsByPowers.j0 k bt106.1 bt106.2 bt114.1 bt114.2 (bt114.2 != bt106.2) l0_0 t110) else (laws_FnExactTurnsByPowers.j0 k bt106.1 bt106.2 bt114.1 bt114.2 true l0_0 t110)))))))) = some r := H
  have A2 := Aside0.mk A20
  clear A20
  by_cases c3 : t102 < 0
  · rw [if_pos c3] at H
    have c3b0 : decide (t102 < 0) = true := decide_eq_true c3
    clear c3
    obtain rfl := Option.some.inj H
    go_enter Try.func3, Try.ntmps3
    go_wp2_with (first | ((with_reducible refine gate_dst (N := 1) rfl ?_); refine box_event ?hg (N := 1) ?hd (cs := #[.slice A0_0 l0_0.length c0_0]) (t := 24) ?hr ?_; (case hd => rfl); (case hg => rfl); (case hr => first | (go_simp; done) | (go_simp; rfl)); intro gb101 hg w4 hbox hb; have n0_ := Aside0.mk (below_step (by repeat (first | (with_reducible first | exact HB.out | apply below_alloc | apply pw_below_drewN | apply below_drew1) | exact HB.out)) hb); have n1_ := Aside0.mk (hbox); have n2_ := Aside0.mk ((by rw [hg]; exact (below_size (by repeat (first | (with_reducible first | exact HB.out | apply below_alloc | apply pw_below_drewN | apply below_drew1) | exact HB.out))) : w.heap.size ≤ gb101)); have n3_ := Aside0.mk ((by rw [hg]; exact (below_size (by repeat (first | (with_reducible first | exact HB.out | apply below_alloc | apply pw_below_drewN | apply below_drew1) | exact HB.out))) : w.heap.size ≤ gb101)); clear HB; have HB := n0_; have BK101 := n1_; have GW101 := n2_; have GE101 := n3_; clear n0_ n1_ n2_ n3_; clear hb hbox hg; have hcz5_0 : w4.cell? ⟨gb101, 0, none⟩ = some (.slice A0_0 l0_0.length c0_0) := (blk_cell BK101.out 0).trans rfl; have hfz5_0 := blk_frozen BK101.out 0) | ((with_reducible refine gate_callee (f := 7) rfl ?_); refine goesL_ (some 16) rfl rfl Try.func7 (by kernel_rfl) rfl #[.agg #[.slice A0_0 l0_0.length c0_0], .int .i64 1048576] rfl (by (try simp only [List.map_toArray, List.map_cons, List.map_nil]); first | done | rfl | (simp only [List.length_drop, List.length_take]; rfl)) ?_; (with_reducible refine (laws_szTasks.calls _ _ l0_0 1048576 t102 _ ?side1 ?side2 A2.out).mono ?_); (case side1 => repeat (first | exact (Kd.C_below HR0_0.out HB.out) | (with_reducible refine Kd.C_alloc ?_ _) | (with_reducible refine Kd.C_drewN ?_ _) | (with_reducible refine Kd.C_drew ?_))); (case side2 => exact HC0_0.out); rintro e w6 ⟨rfl, hb⟩; refine ⟨_, rfl, ?_⟩; have n0_ := Aside0.mk (blk_below (g := gb101) (o := .cells #[.slice A0_0 l0_0.length c0_0] 24 (0, 0)) (by (with_reducible repeat (first | refine blk_drewN ?_ _ | refine blk_drew ?_ | refine blk_alloc ?_ _)); exact BK101.out) hb); have n1_ := Aside0.mk (below_step (by repeat (first | (with_reducible first | exact HB.out | apply below_alloc | apply pw_below_drewN | apply below_drew1 | refine below_set ?_ GE101.out) | exact HB.out)) hb); clear BK101; clear HB; have BK101 := n0_; have HB := n1_; clear n0_ n1_; (try clear hb); (try clear hb2); (try clear hk); (try clear hi)))
    go_ret
    exact ⟨by first | rfl | (simp [errW_none, errW_some] <;> rfl) | (simp [*, errW_none, errW_some] <;> rfl), by repeat (first | (with_reducible first | exact HB.out | apply below_alloc | apply pw_below_drewN | apply below_drew1 | refine below_set ?_ GE101.out) | exact HB.out)⟩
  · rw [if_neg c3] at H
    have c3b0 : decide (t102 < 0) = false := decide_eq_false c3
    clear c3
    replace H := Option.bind_eq_some_iff.mp H
    obtain ⟨t103, A70, H⟩ := H
    replace H : ((spec_TurnsByPowers.f k t103).bind fun bt106 => ((laws_toTasks.f k l0_0).bind fun t110 => ((impl_TurnsByPowers.f k t110).bind fun bt114 => ((laws_eqInt64S.f k bt114.1 bt106.1).bind fun t118 => (if t118 = true then (laws_FnExactTurnsByPowers.j0 k bt106.1 bt106.2 bt114.1 bt114.2 (bt114.2 != bt106.2) l0_0 t110) else (laws_FnExactTurnsByPowers.j0 k bt106.1 bt106.2 bt114.1 bt114.2 true l0_0 t110)))))) = some r := H
    have A7 := Aside0.mk A70
    clear A70
    replace H := Option.bind_eq_some_iff.mp H
    obtain ⟨⟨t106, t109⟩, A80, H⟩ := H
    replace H : ((laws_toTasks.f k l0_0).bind fun t110 => ((impl_TurnsByPowers.f k t110).bind fun bt114 => ((laws_eqInt64S.f k bt114.1 t106).bind fun t118 => (if t118 = true then (laws_FnExactTurnsByPowers.j0 k t106 t109 bt114.1 bt114.2 (bt114.2 != t109) l0_0 t110) else (laws_FnExactTurnsByPowers.j0 k t106 t109 bt114.1 bt114.2 true l0_0 t110))))) = some r := H
    have A8 := Aside0.mk A80
    clear A80
    replace H := Option.bind_eq_some_iff.mp H
    obtain ⟨t110, A90, H⟩ := H
    replace H : ((impl_TurnsByPowers.f k t110).bind fun bt114 => ((laws_eqInt64S.f k bt114.1 t106).bind fun t118 => (if t118 = true then (laws_FnExactTurnsByPowers.j0 k t106 t109 bt114.1 bt114.2 (bt114.2 != t109) l0_0 t110) else (laws_FnExactTurnsByPowers.j0 k t106 t109 bt114.1 bt114.2 true l0_0 t110)))) = some r := H
    have A9 := Aside0.mk A90
    clear A90
    replace H := Option.bind_eq_some_iff.mp H
    obtain ⟨⟨t114, t117⟩, A100, H⟩ := H
    replace H : ((laws_eqInt64S.f k t114 t106).bind fun t118 => (if t118 = true then (laws_FnExactTurnsByPowers.j0 k t106 t109 t114 t117 (t117 != t109) l0_0 t110) else (laws_FnExactTurnsByPowers.j0 k t106 t109 t114 t117 true l0_0 t110))) = some r := H
    have A10 := Aside0.mk A100
    clear A100
    have HC11 := Aside0.mk H
    clear H
    go_enter Try.func3, Try.ntmps3
    go_upto_region 8 with (first | ((with_reducible refine gate_dst (N := 1) rfl ?_); refine box_event ?hg (N := 1) ?hd (cs := #[.slice A0_0 l0_0.length c0_0]) (t := 24) ?hr ?_; (case hd => rfl); (case hg => rfl); (case hr => first | (go_simp; done) | (go_simp; rfl)); intro gb101 hg w12 hbox hb; have n0_ := Aside0.mk (below_step (by repeat (first | (with_reducible first | exact HB.out | apply below_alloc | apply pw_below_drewN | apply below_drew1) | exact HB.out)) hb); have n1_ := Aside0.mk (hbox); have n2_ := Aside0.mk ((by rw [hg]; exact (below_size (by repeat (first | (with_reducible first | exact HB.out | apply below_alloc | apply pw_below_drewN | apply below_drew1) | exact HB.out))) : w.heap.size ≤ gb101)); have n3_ := Aside0.mk ((by rw [hg]; exact (below_size (by repeat (first | (with_reducible first | exact HB.out | apply below_alloc | apply pw_below_drewN | apply below_drew1) | exact HB.out))) : w.heap.size ≤ gb101)); clear HB; have HB := n0_; have BK101 := n1_; have GW101 := n2_; have GE101 := n3_; clear n0_ n1_ n2_ n3_; clear hb hbox hg; have hcz13_0 : w12.cell? ⟨gb101, 0, none⟩ = some (.slice A0_0 l0_0.length c0_0) := (blk_cell BK101.out 0).trans rfl; have hfz13_0 := blk_frozen BK101.out 0) | ((with_reducible refine gate_callee (f := 7) rfl ?_); refine goesL_ (some 16) rfl rfl Try.func7 (by kernel_rfl) rfl #[.agg #[.slice A0_0 l0_0.length c0_0], .int .i64 1048576] rfl (by (try simp only [List.map_toArray, List.map_cons, List.map_nil]); first | done | rfl | (simp only [List.length_drop, List.length_take]; rfl)) ?_; (with_reducible refine (laws_szTasks.calls _ _ l0_0 1048576 t102 _ ?side1 ?side2 A2.out).mono ?_); (case side1 => repeat (first | exact (Kd.C_below HR0_0.out HB.out) | (with_reducible refine Kd.C_alloc ?_ _) | (with_reducible refine Kd.C_drewN ?_ _) | (with_reducible refine Kd.C_drew ?_))); (case side2 => exact HC0_0.out); rintro e w14 ⟨rfl, hb⟩; refine ⟨_, rfl, ?_⟩; have n0_ := Aside0.mk (blk_below (g := gb101) (o := .cells #[.slice A0_0 l0_0.length c0_0] 24 (0, 0)) (by (with_reducible repeat (first | refine blk_drewN ?_ _ | refine blk_drew ?_ | refine blk_alloc ?_ _)); exact BK101.out) hb); have n1_ := Aside0.mk (below_step (by repeat (first | (with_reducible first | exact HB.out | apply below_alloc | apply pw_below_drewN | apply below_drew1 | refine below_set ?_ GE101.out) | exact HB.out)) hb); clear BK101; clear HB; have BK101 := n0_; have HB := n1_; clear n0_ n1_; (try clear hb); (try clear hb2); (try clear hk); (try clear hi); have hcz15_0 : w14.cell? ⟨gb101, 0, none⟩ = some (.slice A0_0 l0_0.length c0_0) := (blk_cell BK101.out 0).trans rfl; have hfz15_0 := blk_frozen BK101.out 0) | ((with_reducible refine gate_callee (f := 9) rfl ?_); refine goesL_ (some 21) rfl rfl Try.func9 (by kernel_rfl) rfl #[.agg #[.slice A0_0 l0_0.length c0_0]] rfl (by (try simp only [List.map_toArray, List.map_cons, List.map_nil]); first | done | rfl | (simp only [List.length_drop, List.length_take]; rfl)) ?_; (with_reducible refine (laws_toTasks.calls k _ _ l0_0 t103 _ ?side1 ?side2 A7.out).mono ?_); (case side1 => repeat (first | exact (Kd.C_below HR0_0.out HB.out) | (with_reducible refine Kd.C_alloc ?_ _) | (with_reducible refine Kd.C_drewN ?_ _) | (with_reducible refine Kd.C_drew ?_))); (case side2 => exact HC0_0.out); rintro e w16 ⟨v104, rfl, ho0, hb⟩; refine ⟨_, rfl, ?_⟩; have n0_ := Aside0.mk (Kd.R_lower ho0 (below_size (by repeat (first | (with_reducible first | exact HB.out | apply below_alloc | apply pw_below_drewN | apply below_drew1 | refine below_set ?_ GE101.out) | exact HB.out)))); have n1_ := Aside0.mk (blk_below (g := gb101) (o := .cells #[.slice A0_0 l0_0.length c0_0] 24 (0, 0)) (by (with_reducible repeat (first | refine blk_drewN ?_ _ | refine blk_drew ?_ | refine blk_alloc ?_ _)); exact BK101.out) hb); have n2_ := Aside0.mk (below_step (by repeat (first | (with_reducible first | exact HB.out | apply below_alloc | apply pw_below_drewN | apply below_drew1 | refine below_set ?_ GE101.out) | exact HB.out)) hb); clear BK101; clear HB; have HO105 := n0_; have BK101 := n1_; have HB := n2_; clear n0_ n1_ n2_; (try clear hb); (try clear hb2); (try clear hk); (try clear hi); (try clear ho0); obtain ⟨Ao17, co17, eo17⟩ := Kd.R_slice HO105.out; subst eo17) | ((with_reducible refine gate_callee (f := 8) rfl ?_); refine goesL_ (some 22) rfl rfl Try.func8 (by kernel_rfl) rfl #[.agg #[.slice Ao17 t103.length co17]] rfl (by (try simp only [List.map_toArray, List.map_cons, List.map_nil]); first | done | rfl | (simp only [List.length_drop, List.length_take]; rfl)) ?_; (with_reducible refine (spec_TurnsByPowers.calls k _ _ t103 t106 t109 _ ?side1 ?side2 A8.out).mono ?_); (case side1 => repeat (first | exact (Kd.R_reads' HO105.out).2.2 | (with_reducible refine Kd.C_alloc ?_ _) | (with_reducible refine Kd.C_drewN ?_ _) | (with_reducible refine Kd.C_drew ?_))); (case side2 => exact (Kd.R_reads' HO105.out).2.1); rintro e w18 ⟨v107, rfl, ho0, hb⟩; refine ⟨_, rfl, ?_⟩; have n0_ := Aside0.mk (Kd.R_elder' (by (with_reducible repeat (first | apply Kd.R_alloc | apply Kd.R_drewN | apply Kd.R_drew)); exact HO105.out) (Kd.R_base ho0) hb); have n1_ := Aside0.mk (Kd.R_lower (Kd.R_new' ho0 (Kd.R_lt (by (with_reducible repeat (first | apply Kd.R_alloc | apply Kd.R_drewN | apply Kd.R_drew)); exact HO105.out))) (below_size (by repeat (first | (with_reducible first | exact HB.out | apply below_alloc | apply pw_below_drewN | apply below_drew1 | refine below_set ?_ GE101.out) | exact HB.out)))); have n2_ := Aside0.mk (blk_below (g := gb101) (o := .cells #[.slice A0_0 l0_0.length c0_0] 24 (0, 0)) (by (with_reducible repeat (first | refine blk_drewN ?_ _ | refine blk_drew ?_ | refine blk_alloc ?_ _)); exact BK101.out) hb); have n3_ := Aside0.mk (below_step (by repeat (first | (with_reducible first | exact HB.out | apply below_alloc | apply pw_below_drewN | apply below_drew1 | refine below_set ?_ GE101.out) | exact HB.out)) hb); clear HO105; clear BK101; clear HB; have HO105 := n0_; have HO108 := n1_; have BK101 := n2_; have HB := n3_; clear n0_ n1_ n2_ n3_; (try clear hb); (try clear hb2); (try clear hk); (try clear hi); (try clear ho0); have hcz19_0 : w18.cell? ⟨gb101, 0, none⟩ = some (.slice A0_0 l0_0.length c0_0) := (blk_cell BK101.out 0).trans rfl; have hfz19_0 := blk_frozen BK101.out 0) | ((with_reducible refine gate_callee (f := 9) rfl ?_); refine goesL_ (some 26) rfl rfl Try.func9 (by kernel_rfl) rfl #[.agg #[.slice A0_0 l0_0.length c0_0]] rfl (by (try simp only [List.map_toArray, List.map_cons, List.map_nil]); first | done | rfl | (simp only [List.length_drop, List.length_take]; rfl)) ?_; (with_reducible refine (laws_toTasks.calls k _ _ l0_0 t110 _ ?side1 ?side2 A9.out).mono ?_); (case side1 => repeat (first | exact (Kd.C_below HR0_0.out HB.out) | (with_reducible refine Kd.C_alloc ?_ _) | (with_reducible refine Kd.C_drewN ?_ _) | (with_reducible refine Kd.C_drew ?_))); (case side2 => exact HC0_0.out); rintro e w20 ⟨v111, rfl, ho0, hb⟩; refine ⟨_, rfl, ?_⟩; have n0_ := Aside0.mk (Kd.R_elder' (by (with_reducible repeat (first | apply Kd.R_alloc | apply Kd.R_drewN | apply Kd.R_drew)); exact HO105.out) (Kd.R_base ho0) hb); have n1_ := Aside0.mk (Kd.R_elder' (by (with_reducible repeat (first | apply Kd.R_alloc | apply Kd.R_drewN | apply Kd.R_drew)); exact HO108.out) (Kd.R_base ho0) hb); have n2_ := Aside0.mk (Kd.R_lower (Kd.R_new' (Kd.R_new' ho0 (Kd.R_lt (by (with_reducible repeat (first | apply Kd.R_alloc | apply Kd.R_drewN | apply Kd.R_drew)); exact HO105.out))) (Kd.R_lt (by (with_reducible repeat (first | apply Kd.R_alloc | apply Kd.R_drewN | apply Kd.R_drew)); exact HO108.out))) (below_size (by repeat (first | (with_reducible first | exact HB.out | apply below_alloc | apply pw_below_drewN | apply below_drew1 | refine below_set ?_ GE101.out) | exact HB.out)))); have n3_ := Aside0.mk (blk_below (g := gb101) (o := .cells #[.slice A0_0 l0_0.length c0_0] 24 (0, 0)) (by (with_reducible repeat (first | refine blk_drewN ?_ _ | refine blk_drew ?_ | refine blk_alloc ?_ _)); exact BK101.out) hb); have n4_ := Aside0.mk (below_step (by repeat (first | (with_reducible first | exact HB.out | apply below_alloc | apply pw_below_drewN | apply below_drew1 | refine below_set ?_ GE101.out) | exact HB.out)) hb); clear HO105; clear HO108; clear BK101; clear HB; have HO105 := n0_; have HO108 := n1_; have HO112 := n2_; have BK101 := n3_; have HB := n4_; clear n0_ n1_ n2_ n3_ n4_; (try clear hb); (try clear hb2); (try clear hk); (try clear hi); (try clear ho0)) | ((with_reducible refine gate_dst (N := 6) rfl ?_); refine box_event ?hg (N := 6) ?hd (cs := #[.slice none 0 0]) (t := 28) ?hr ?_; (case hd => rfl); (case hg => rfl); (case hr => first | (go_simp; done) | (go_simp; rfl)); intro gb113 hg w21 hbox hb; have n0_ := Aside0.mk (Kd.R_below (by (with_reducible repeat (first | apply Kd.R_alloc | apply Kd.R_drewN | apply Kd.R_drew)); exact HO105.out) hb); have n1_ := Aside0.mk (Kd.R_below (by (with_reducible repeat (first | apply Kd.R_alloc | apply Kd.R_drewN | apply Kd.R_drew)); exact HO108.out) hb); have n2_ := Aside0.mk (Kd.R_below (by (with_reducible repeat (first | apply Kd.R_alloc | apply Kd.R_drewN | apply Kd.R_drew)); exact HO112.out) hb); have n3_ := Aside0.mk (blk_below (g := gb101) (o := .cells #[.slice A0_0 l0_0.length c0_0] 24 (0, 0)) (by (with_reducible repeat (first | refine blk_drewN ?_ _ | refine blk_drew ?_ | refine blk_alloc ?_ _)); exact BK101.out) hb); have n4_ := Aside0.mk (below_step (by repeat (first | (with_reducible first | exact HB.out | apply below_alloc | apply pw_below_drewN | apply below_drew1 | refine below_set ?_ GE101.out) | exact HB.out)) hb); have n5_ := Aside0.mk (hbox); have n6_ := Aside0.mk ((by rw [hg]; exact (below_size (by repeat (first | (with_reducible first | exact HB.out | apply below_alloc | apply pw_below_drewN | apply below_drew1 | refine below_set ?_ GE101.out) | exact HB.out))) : w.heap.size ≤ gb113)); have n7_ := Aside0.mk ((by rw [hg]; exact (below_size (by repeat (first | (with_reducible first | exact HB.out | apply below_alloc | apply pw_below_drewN | apply below_drew1 | refine below_set ?_ GE101.out) | exact HB.out))) : w.heap.size ≤ gb113)); have n8_ := Aside0.mk ((by rw [hg]; exact Nat.ne_of_lt (blk_lt (g := gb101) (o := .cells #[.slice A0_0 l0_0.length c0_0] 24 (0, 0)) (by (with_reducible repeat (first | refine blk_drewN ?_ _ | refine blk_drew ?_ | refine blk_alloc ?_ _)); exact BK101.out)) : gb101 ≠ gb113)); have n9_ := Aside0.mk ((by rw [hg]; exact Nat.ne_of_gt (blk_lt (g := gb101) (o := .cells #[.slice A0_0 l0_0.length c0_0] 24 (0, 0)) (by (with_reducible repeat (first | refine blk_drewN ?_ _ | refine blk_drew ?_ | refine blk_alloc ?_ _)); exact BK101.out)) : gb113 ≠ gb101)); clear HO105; clear HO108; clear HO112; clear BK101; clear HB; have HO105 := n0_; have HO108 := n1_; have HO112 := n2_; have BK101 := n3_; have HB := n4_; have BK113 := n5_; have GW113 := n6_; have GE113 := n7_; have NB101_113 := n8_; have NB113_101 := n9_; clear n0_ n1_ n2_ n3_ n4_ n5_ n6_ n7_ n8_ n9_; clear hb hbox hg; obtain ⟨Ao22, co22, eo22⟩ := Kd.R_slice HO112.out; subst eo22; have hnb23 := NB113_101.out; have hnc23 := NB101_113.out; have hcz24_0 : w21.cell? ⟨gb113, 0, none⟩ = some (.slice none 0 0) := (blk_cell BK113.out 0).trans rfl; have hfz24_0 := blk_frozen BK113.out 0) | ((with_reducible refine gate_callee (f := 10) rfl ?_); refine goesL_ (some 29) rfl rfl Try.func10 (by kernel_rfl) rfl #[.agg #[.slice Ao22 t110.length co22]] rfl (by (try simp only [List.map_toArray, List.map_cons, List.map_nil]); first | done | rfl | (simp only [List.length_drop, List.length_take]; rfl)) ?_; (with_reducible refine (impl_TurnsByPowers.calls k _ _ t110 t114 t117 _ ?side1 ?side2 A10.out).mono ?_); (case side1 => refine (Kd.R_reads' (e := 2) (base := w.heap.size) (ok := fun k_ => ((True ∧ some k_ ≠ (.slice Ao17 t103.length co17 : Value).ownBlock) ∧ some k_ ≠ (v107 : Value).ownBlock)) (n := t110.length) (c := co22) ?_).2.2; exact (by (with_reducible repeat (first | apply Kd.R_alloc | apply Kd.R_drewN | apply Kd.R_drew)); exact (Kd.R_mono (Kd.R_far (p := ⟨gb113, 0, none⟩) (Kd.R_types HO112.out BK113.out (by decide)) (fun _ hk => hk.2) (.slice Ao22 t110.length co22)) (fun _ h_ => h_.1)))); (case side2 => exact (Kd.R_reads' HO112.out).2.1); rintro e w25 ⟨v115, rfl, ho0, hb⟩; refine ⟨_, rfl, ?_⟩; have n0_ := Aside0.mk (Kd.R_elder' (by (with_reducible repeat (first | apply Kd.R_alloc | apply Kd.R_drewN | apply Kd.R_drew)); exact (Kd.R_mono (Kd.R_far (p := ⟨gb113, 0, none⟩) (Kd.R_types HO105.out BK113.out (by decide)) (fun _ hk => hk.2) (.slice Ao22 t110.length co22)) (fun _ h_ => h_.1))) (Kd.R_base ho0) hb); have n1_ := Aside0.mk (Kd.R_elder' (by (with_reducible repeat (first | apply Kd.R_alloc | apply Kd.R_drewN | apply Kd.R_drew)); exact (Kd.R_mono (Kd.R_far (p := ⟨gb113, 0, none⟩) (Kd.R_types HO108.out BK113.out (by decide)) (fun _ hk => hk.2) (.slice Ao22 t110.length co22)) (fun _ h_ => h_.1))) (Kd.R_base ho0) hb); have n2_ := Aside0.mk (Kd.R_elder' (by (with_reducible repeat (first | apply Kd.R_alloc | apply Kd.R_drewN | apply Kd.R_drew)); exact (Kd.R_mono (Kd.R_far (p := ⟨gb113, 0, none⟩) (Kd.R_types HO112.out BK113.out (by decide)) (fun _ hk => hk.2) (.slice Ao22 t110.length co22)) (fun _ h_ => h_.1))) (Kd.R_base ho0) hb); have n3_ := Aside0.mk (Kd.R_lower (Kd.R_new' (Kd.R_new' (Kd.R_new' ho0 (Kd.R_lt (by (with_reducible repeat (first | apply Kd.R_alloc | apply Kd.R_drewN | apply Kd.R_drew)); exact (Kd.R_mono (Kd.R_far (p := ⟨gb113, 0, none⟩) (Kd.R_types HO105.out BK113.out (by decide)) (fun _ hk => hk.2) (.slice Ao22 t110.length co22)) (fun _ h_ => h_.1))))) (Kd.R_lt (by (with_reducible repeat (first | apply Kd.R_alloc | apply Kd.R_drewN | apply Kd.R_drew)); exact (Kd.R_mono (Kd.R_far (p := ⟨gb113, 0, none⟩) (Kd.R_types HO108.out BK113.out (by decide)) (fun _ hk => hk.2) (.slice Ao22 t110.length co22)) (fun _ h_ => h_.1))))) (Kd.R_lt (by (with_reducible repeat (first | apply Kd.R_alloc | apply Kd.R_drewN | apply Kd.R_drew)); exact (Kd.R_mono (Kd.R_far (p := ⟨gb113, 0, none⟩) (Kd.R_types HO112.out BK113.out (by decide)) (fun _ hk => hk.2) (.slice Ao22 t110.length co22)) (fun _ h_ => h_.1))))) (below_size (by repeat (first | (with_reducible first | exact HB.out | apply below_alloc | apply pw_below_drewN | apply below_drew1 | refine below_set ?_ GE101.out | refine below_set ?_ GE113.out) | exact HB.out)))); have n4_ := Aside0.mk (blk_below (g := gb101) (o := .cells #[.slice A0_0 l0_0.length c0_0] 24 (0, 0)) (by (with_reducible repeat (first | refine blk_drewN ?_ _ | refine blk_drew ?_ | refine blk_alloc ?_ _)); refine blk_far ?_ NB101_113.out _; (with_reducible repeat (first | refine blk_drewN ?_ _ | refine blk_drew ?_ | refine blk_alloc ?_ _)); exact BK101.out) hb); have n5_ := Aside0.mk (blk_below (g := gb113) (o := .cells #[.slice Ao22 t110.length co22] 28 (0, 0)) (by (with_reducible repeat (first | refine blk_drewN ?_ _ | refine blk_drew ?_ | refine blk_alloc ?_ _)); refine blk_put (cs := #[.slice none 0 0]) ?_ 0 _ rfl; (with_reducible repeat (first | refine blk_drewN ?_ _ | refine blk_drew ?_ | refine blk_alloc ?_ _)); exact BK113.out) hb); have n6_ := Aside0.mk (below_step (by repeat (first | (with_reducible first | exact HB.out | apply below_alloc | apply pw_below_drewN | apply below_drew1 | refine below_set ?_ GE101.out | refine below_set ?_ GE113.out) | exact HB.out)) hb); clear HO105; clear HO108; clear HO112; clear BK101; clear BK113; clear HB; have HO105 := n0_; have HO108 := n1_; have HO112 := n2_; have HO116 := n3_; have BK101 := n4_; have BK113 := n5_; have HB := n6_; clear n0_ n1_ n2_ n3_ n4_ n5_ n6_; (try clear hb); (try clear hb2); (try clear hk); (try clear hi); (try clear ho0)))
    (try simp only [Act.put, List.setIfInBounds_toArray, List.set_cons_zero, List.set_cons_succ])
    go_cut [40] (fun v40 wc => ∃ (kq : Nat) (x40_10 : Bool), v40 = .bool x40_10 ∧ Aside0 (laws_FnExactTurnsByPowers.j0 kq t106 t109 t114 t117 x40_10 l0_0 t110 = some r) ∧ Aside0 (kq ≤ k) ∧ Aside0 (Kd.R (Kd.int .i64) 2 wc w.heap.size (fun k_ => some k_ ≠ (v115 : Value).ownBlock ∧ some k_ ≠ ((.slice Ao22 t110.length co22) : Value).ownBlock) v107 t106) ∧ Aside0 (Kd.R (Kd.int .i64) 2 wc w.heap.size (fun k_ => some k_ ≠ (v107 : Value).ownBlock ∧ some k_ ≠ ((.slice Ao22 t110.length co22) : Value).ownBlock) v115 t114) ∧ Aside0 (Kd.R (Kd.int .i64) 2 wc w.heap.size (fun k_ => some k_ ≠ (v107 : Value).ownBlock ∧ some k_ ≠ (v115 : Value).ownBlock) (.slice Ao22 t110.length co22) t110) ∧ Aside0 (wc.heap[gb101]? = some (.cells #[(.slice A0_0 l0_0.length c0_0)] 24 (0, 0))) ∧ Aside0 (wc.heap[gb113]? = some (.cells #[(.slice Ao22 t110.length co22)] 28 (0, 0))) ∧ Aside0 (Below w.heap.size w wc))
    case first =>
      have H := HC11.out
      clear HC11
      replace H := Option.bind_eq_some_iff.mp H
      obtain ⟨t118, A260, H⟩ := H
      replace H : (if t118 = true then (laws_FnExactTurnsByPowers.j0 k t106 t109 t114 t117 (t117 != t109) l0_0 t110) else (laws_FnExactTurnsByPowers.j0 k t106 t109 t114 t117 true l0_0 t110)) = some r := H
      have A26 := Aside0.mk A260
      clear A260
      by_cases c27 : t118 = true
      · subst c27
        have H1 : (laws_FnExactTurnsByPowers.j0 k t106 t109 t114 t117 (t117 != t109) l0_0 t110) = some r := by rw [if_pos rfl] at H; exact H
        clear H
        have H := H1
        clear H1
        have H' := Aside0.mk H
        clear H
        obtain ⟨Ao28, co28, eo28⟩ := Kd.R_slice HO116.out
        subst eo28
        obtain ⟨Ao29, co29, eo29⟩ := Kd.R_slice HO108.out
        subst eo29
        go_wp2_with (first | ((with_reducible refine gate_callee (f := 11) rfl ?_); refine goesL_ (some 34) rfl rfl Try.func11 (by kernel_rfl) rfl #[.slice Ao28 t114.length co28, .slice Ao29 t106.length co29] rfl (by (try simp only [List.map_toArray, List.map_cons, List.map_nil]); first | done | rfl | (simp only [List.length_drop, List.length_take]; rfl)) ?_; (with_reducible refine (laws_eqInt64S.calls k _ _ t114 _ _ t106 true _ ?side1 ?side2 ?side3 ?side4 A26.out).mono ?_); (case side1 => repeat (first | exact (Kd.R_reads' HO116.out).2.2 | (with_reducible refine Kd.C_alloc ?_ _) | (with_reducible refine Kd.C_drewN ?_ _) | (with_reducible refine Kd.C_drew ?_))); (case side2 => exact (Kd.R_reads' HO116.out).2.1); (case side3 => repeat (first | exact (Kd.R_reads' HO108.out).2.2 | (with_reducible refine Kd.C_alloc ?_ _) | (with_reducible refine Kd.C_drewN ?_ _) | (with_reducible refine Kd.C_drew ?_))); (case side4 => exact (Kd.R_reads' HO108.out).2.1); rintro e w' ⟨rfl, ⟨nd, rfl⟩⟩; refine ⟨_, rfl, ?_⟩))
        go_meet
        case rel => exact ⟨_, ((t117 != t109)), (by first | rfl | (simp; done) | (simp [*]; done)), H', ⟨by first | omega | exact Nat.le_refl _⟩, ⟨by (with_reducible repeat (first | apply Kd.R_alloc | apply Kd.R_drewN | apply Kd.R_drew)); exact Kd.R_mono HO108.out (fun _ hk => ⟨hk.2, hk.1.2⟩)⟩, ⟨by (with_reducible repeat (first | apply Kd.R_alloc | apply Kd.R_drewN | apply Kd.R_drew)); exact Kd.R_mono HO116.out (fun _ hk => ⟨hk.1.2, hk.2⟩)⟩, ⟨by (with_reducible repeat (first | apply Kd.R_alloc | apply Kd.R_drewN | apply Kd.R_drew)); exact Kd.R_mono HO112.out (fun _ hk => ⟨hk.1.2, hk.2⟩)⟩, ⟨by (with_reducible repeat (first | refine blk_drewN ?_ _ | refine blk_drew ?_ | refine blk_alloc ?_ _)); exact BK101.out⟩, ⟨by (with_reducible repeat (first | refine blk_drewN ?_ _ | refine blk_drew ?_ | refine blk_alloc ?_ _)); exact BK113.out⟩, ⟨by repeat (first | (with_reducible first | exact HB.out | apply below_alloc | apply pw_below_drewN | apply below_drew1 | refine below_set ?_ GE101.out | refine below_set ?_ GE113.out) | exact HB.out)⟩⟩
      · replace c27 := Bool.eq_false_iff.mpr c27
        subst c27
        have H1 : (laws_FnExactTurnsByPowers.j0 k t106 t109 t114 t117 true l0_0 t110) = some r := by rw [if_neg (show ¬ (false = true) by decide)] at H; exact H
        clear H
        have H := H1
        clear H1
        have H' := Aside0.mk H
        clear H
        obtain ⟨Ao30, co30, eo30⟩ := Kd.R_slice HO116.out
        subst eo30
        obtain ⟨Ao31, co31, eo31⟩ := Kd.R_slice HO108.out
        subst eo31
        go_wp2_with (first | ((with_reducible refine gate_callee (f := 11) rfl ?_); refine goesL_ (some 34) rfl rfl Try.func11 (by kernel_rfl) rfl #[.slice Ao30 t114.length co30, .slice Ao31 t106.length co31] rfl (by (try simp only [List.map_toArray, List.map_cons, List.map_nil]); first | done | rfl | (simp only [List.length_drop, List.length_take]; rfl)) ?_; (with_reducible refine (laws_eqInt64S.calls k _ _ t114 _ _ t106 false _ ?side1 ?side2 ?side3 ?side4 A26.out).mono ?_); (case side1 => repeat (first | exact (Kd.R_reads' HO116.out).2.2 | (with_reducible refine Kd.C_alloc ?_ _) | (with_reducible refine Kd.C_drewN ?_ _) | (with_reducible refine Kd.C_drew ?_))); (case side2 => exact (Kd.R_reads' HO116.out).2.1); (case side3 => repeat (first | exact (Kd.R_reads' HO108.out).2.2 | (with_reducible refine Kd.C_alloc ?_ _) | (with_reducible refine Kd.C_drewN ?_ _) | (with_reducible refine Kd.C_drew ?_))); (case side4 => exact (Kd.R_reads' HO108.out).2.1); rintro e w' ⟨rfl, ⟨nd, rfl⟩⟩; refine ⟨_, rfl, ?_⟩))
        go_meet
        case rel => exact ⟨_, (true), (by first | rfl | (simp; done) | (simp [*]; done)), H', ⟨by first | omega | exact Nat.le_refl _⟩, ⟨by (with_reducible repeat (first | apply Kd.R_alloc | apply Kd.R_drewN | apply Kd.R_drew)); exact Kd.R_mono HO108.out (fun _ hk => ⟨hk.2, hk.1.2⟩)⟩, ⟨by (with_reducible repeat (first | apply Kd.R_alloc | apply Kd.R_drewN | apply Kd.R_drew)); exact Kd.R_mono HO116.out (fun _ hk => ⟨hk.1.2, hk.2⟩)⟩, ⟨by (with_reducible repeat (first | apply Kd.R_alloc | apply Kd.R_drewN | apply Kd.R_drew)); exact Kd.R_mono HO112.out (fun _ hk => ⟨hk.1.2, hk.2⟩)⟩, ⟨by (with_reducible repeat (first | refine blk_drewN ?_ _ | refine blk_drew ?_ | refine blk_alloc ?_ _)); exact BK101.out⟩, ⟨by (with_reducible repeat (first | refine blk_drewN ?_ _ | refine blk_drew ?_ | refine blk_alloc ?_ _)); exact BK113.out⟩, ⟨by repeat (first | (with_reducible first | exact HB.out | apply below_alloc | apply pw_below_drewN | apply below_drew1 | refine below_set ?_ GE101.out | refine below_set ?_ GE113.out) | exact HB.out)⟩⟩
    case rest =>
      clear HC11
      try clear c1
      try clear c2
      try clear p2
      try clear c3
      try clear c3b0
      try clear c7
      try clear c8
      try clear c9
      try clear c10
      try clear c11
      try clear c23
      try clear c27
      try clear hcz13_0
      try clear hcz15_0
      try clear hcz19_0
      try clear hcz24_0
      try clear hcz5_0
      try clear hfz13_0
      try clear hfz15_0
      try clear hfz19_0
      try clear hfz24_0
      try clear hfz5_0
      obtain ⟨kq, x40_10, rfl, HA, HJ10, HO_4, HO_7, HO_114000, BK101, BK113, HB⟩ := hcut
      cases kq with
      | zero => exact absurd HA.out (by simp [laws_FnExactTurnsByPowers.j0])
      | succ kj10 =>
        have H := HA.out
        clear HA
        simp only [laws_FnExactTurnsByPowers.j0] at H
        by_cases c32 : x40_10 = true
        · subst c32
          have H1 : (some false) = some r := by rw [if_pos rfl] at H; exact H
          clear H
          have H := H1
          clear H1
          obtain rfl := Option.some.inj H
          go_wp2
          go_ret
          exact ⟨by first | rfl | (simp [errW_none, errW_some] <;> rfl) | (simp [*, errW_none, errW_some] <;> rfl), by repeat (first | (with_reducible first | exact HB.out | apply below_alloc | apply pw_below_drewN | apply below_drew1 | refine below_set ?_ GE101.out | refine below_set ?_ GE113.out) | exact HB.out)⟩
        · replace c32 := Bool.eq_false_iff.mpr c32
          subst c32
          have H1 : ((laws_toTasks.f kj10 l0_0).bind fun t119 => ((laws_eqTasks.f kj10 t110 t119).bind fun t122 => (if t122 = true then ((laws_markTasks.f kj10 t110 1).bind fun bt123 => (if bt123.1 < 0 then (laws_FnExactTurnsByPowers.j1 kj10 t106 t109 t114 true l0_0) else ((laws_eqInt64S.f kj10 t114 t106).bind fun t125 => (if t125 = true then (laws_FnExactTurnsByPowers.j1 kj10 t106 t109 t114 (t117 != t109) l0_0) else (laws_FnExactTurnsByPowers.j1 kj10 t106 t109 t114 true l0_0))))) else (some false)))) = some r := by rw [if_neg (show ¬ (false = true) by decide)] at H; exact H
          clear H
          have H := H1
          clear H1
          replace H := Option.bind_eq_some_iff.mp H
          obtain ⟨t119, A330, H⟩ := H
          replace H : ((laws_eqTasks.f kj10 t110 t119).bind fun t122 => (if t122 = true then ((laws_markTasks.f kj10 t110 1).bind fun bt123 => (if bt123.1 < 0 then (laws_FnExactTurnsByPowers.j1 kj10 t106 t109 t114 true l0_0) else ((laws_eqInt64S.f kj10 t114 t106).bind fun t125 => (if t125 = true then (laws_FnExactTurnsByPowers.j1 kj10 t106 t109 t114 (t117 != t109) l0_0) else (laws_FnExactTurnsByPowers.j1 kj10 t106 t109 t114 true l0_0))))) else (some false))) = some r := H
          have A33 := Aside0.mk A330
          clear A330
          replace H := Option.bind_eq_some_iff.mp H
          obtain ⟨t122, A340, H⟩ := H
          replace H : (if t122 = true then ((laws_markTasks.f kj10 t110 1).bind fun bt123 => (if bt123.1 < 0 then (laws_FnExactTurnsByPowers.j1 kj10 t106 t109 t114 true l0_0) else ((laws_eqInt64S.f kj10 t114 t106).bind fun t125 => (if t125 = true then (laws_FnExactTurnsByPowers.j1 kj10 t106 t109 t114 (t117 != t109) l0_0) else (laws_FnExactTurnsByPowers.j1 kj10 t106 t109 t114 true l0_0))))) else (some false)) = some r := H
          have A34 := Aside0.mk A340
          clear A340
          by_cases c35 : t122 = true
          · subst c35
            have H1 : ((laws_markTasks.f kj10 t110 1).bind fun bt123 => (if bt123.1 < 0 then (laws_FnExactTurnsByPowers.j1 kj10 t106 t109 t114 true l0_0) else ((laws_eqInt64S.f kj10 t114 t106).bind fun t125 => (if t125 = true then (laws_FnExactTurnsByPowers.j1 kj10 t106 t109 t114 (t117 != t109) l0_0) else (laws_FnExactTurnsByPowers.j1 kj10 t106 t109 t114 true l0_0))))) = some r := by rw [if_pos rfl] at H; exact H
            clear H
            have H := H1
            clear H1
            replace H := Option.bind_eq_some_iff.mp H
            obtain ⟨⟨t123, t124⟩, A360, H⟩ := H
            replace H : (if t123 < 0 then (laws_FnExactTurnsByPowers.j1 kj10 t106 t109 t114 true l0_0) else ((laws_eqInt64S.f kj10 t114 t106).bind fun t125 => (if t125 = true then (laws_FnExactTurnsByPowers.j1 kj10 t106 t109 t114 (t117 != t109) l0_0) else (laws_FnExactTurnsByPowers.j1 kj10 t106 t109 t114 true l0_0)))) = some r := H
            have A36 := Aside0.mk A360
            clear A360
            have HC37 := Aside0.mk H
            clear H
            try go_wp2
            have n0_ := Aside0.mk (Kd.R_drew HO_4.out)
            have n1_ := Aside0.mk (Kd.R_drew HO_7.out)
            have n2_ := Aside0.mk (Kd.R_drew HO_114000.out)
            have n3_ := Aside0.mk (blk_drew BK101.out)
            have n4_ := Aside0.mk (blk_drew BK113.out)
            have n5_ := Aside0.mk (below_drew1 HB.out)
            clear HO_4
            clear HO_7
            clear HO_114000
            clear BK101
            clear BK113
            clear HB
            have HO_4 := n0_
            have HO_7 := n1_
            have HO_114000 := n2_
            have BK101 := n3_
            have BK113 := n4_
            have HB := n5_
            clear n0_ n1_ n2_ n3_ n4_ n5_
            refine start_ (n := 5) (S := fun w' => w'.cell? ⟨gb113, 0, none⟩ = some (.slice Ao22 t110.length co22) ∧ w'.cell? ⟨gb101, 0, none⟩ = some (.slice A0_0 l0_0.length c0_0)) (ds := []) #[false, false, false, false, false] (by kernel_rfl) rfl rfl ⟨(blk_cell BK113.out 0).trans rfl, (blk_cell BK101.out 0).trans rfl⟩ (fun hHeld => ?_)
            generalize wc.drew = w38 at HO_4 HO_7 HO_114000 BK101 BK113 HB hHeld ⊢
            refine take_ (i := 0) (N := some 41) (v := ?_) (a' := ?_) #[true, false, false, false, false] rfl rfl (by kernel_rfl) (fun _ _ _ h => h) (Or.inl ⟨by rfl, ?_⟩) hHeld ?_ ?_
            rotate_left
            · rintro w' ⟨s0, s1⟩
              go_simp
              with_reducible rfl
            rotate_left
            · simp only [Act.put, List.setIfInBounds_toArray, List.set_cons_zero, List.set_cons_succ, i64_w, i32_w]
              rfl
            refine take_ (i := 1) (N := some 42) (v := ?_) (a' := ?_) #[true, true, false, false, false] rfl rfl (by kernel_rfl) (fun _ _ _ h => h) (Or.inl ⟨by rfl, ?_⟩) hHeld ?_ ?_
            rotate_left
            · rintro w' ⟨s0, s1⟩
              go_simp
              with_reducible rfl
            rotate_left
            · simp only [Act.put, List.setIfInBounds_toArray, List.set_cons_zero, List.set_cons_succ, i64_w, i32_w]
              rfl
            refine one_ (i := 2) (N := some 43) #[true, true, true, false, false] rfl rfl (by kernel_rfl) (by decide) (fun K hK => ?_)
            refine goes_ Try.func9 (by kernel_rfl) rfl #[.agg #[.slice A0_0 l0_0.length c0_0]] (by rfl) rfl rfl (by (try simp only [List.map_toArray, List.map_cons, List.map_nil]); first | done | rfl | (simp only [List.length_drop, List.length_take]; rfl)) ?_
            with_reducible refine (laws_toTasks.calls kj10 _ _ l0_0 t119 _ ?side1 ?side2 A33.out).mono ?_
            (case side1 => repeat (first | exact (Kd.C_below HR0_0.out HB.out) | (with_reducible refine Kd.C_alloc ?_ _) | (with_reducible refine Kd.C_drewN ?_ _) | (with_reducible refine Kd.C_drew ?_)))
            (case side2 => exact HC0_0.out)
            rintro e w39 ⟨v120, rfl, ho0, hb⟩
            refine ⟨_, rfl, ?_⟩
            have n0_ := Aside0.mk (Kd.R_elder' (by (with_reducible repeat (first | apply Kd.R_alloc | apply Kd.R_drewN | apply Kd.R_drew)); exact HO_4.out) (Kd.R_base ho0) hb)
            have n1_ := Aside0.mk (Kd.R_elder' (by (with_reducible repeat (first | apply Kd.R_alloc | apply Kd.R_drewN | apply Kd.R_drew)); exact HO_7.out) (Kd.R_base ho0) hb)
            have n2_ := Aside0.mk (Kd.R_elder' (by (with_reducible repeat (first | apply Kd.R_alloc | apply Kd.R_drewN | apply Kd.R_drew)); exact HO_114000.out) (Kd.R_base ho0) hb)
            have n3_ := Aside0.mk (Kd.R_lower (Kd.R_new' (Kd.R_new' (Kd.R_new' ho0 (Kd.R_lt (by (with_reducible repeat (first | apply Kd.R_alloc | apply Kd.R_drewN | apply Kd.R_drew)); exact HO_4.out))) (Kd.R_lt (by (with_reducible repeat (first | apply Kd.R_alloc | apply Kd.R_drewN | apply Kd.R_drew)); exact HO_7.out))) (Kd.R_lt (by (with_reducible repeat (first | apply Kd.R_alloc | apply Kd.R_drewN | apply Kd.R_drew)); exact HO_114000.out))) (below_size (by repeat (first | (with_reducible first | exact HB.out | apply below_alloc | apply pw_below_drewN | apply below_drew1 | refine below_set ?_ GE101.out | refine below_set ?_ GE113.out) | exact HB.out))))
            have n4_ := Aside0.mk (blk_below (g := gb101) (o := .cells #[.slice A0_0 l0_0.length c0_0] 24 (0, 0)) (by (with_reducible repeat (first | refine blk_drewN ?_ _ | refine blk_drew ?_ | refine blk_alloc ?_ _)); exact BK101.out) hb)
            have n5_ := Aside0.mk (blk_below (g := gb113) (o := .cells #[.slice Ao22 t110.length co22] 28 (0, 0)) (by (with_reducible repeat (first | refine blk_drewN ?_ _ | refine blk_drew ?_ | refine blk_alloc ?_ _)); exact BK113.out) hb)
            have n6_ := Aside0.mk (below_step (by repeat (first | (with_reducible first | exact HB.out | apply below_alloc | apply pw_below_drewN | apply below_drew1 | refine below_set ?_ GE101.out | refine below_set ?_ GE113.out) | exact HB.out)) hb)
            clear HO_4
            clear HO_7
            clear HO_114000
            clear BK101
            clear BK113
            clear HB
            have HO_4 := n0_
            have HO_7 := n1_
            have HO_114000 := n2_
            have HO121 := n3_
            have BK101 := n4_
            have BK113 := n5_
            have HB := n6_
            clear n0_ n1_ n2_ n3_ n4_ n5_ n6_
            (try clear hb)
            (try clear hb2)
            (try clear hk)
            (try clear hi)
            (try clear ho0)
            obtain ⟨Ao40, co40, eo40⟩ := Kd.R_slice HO121.out
            (first | subst eo40 | (injection eo40 with f1_ f2_ f3_; have f4_ := f1_.symm; have f5_ := f3_.symm; clear f1_ f2_ f3_; subst f4_; subst f5_))
            refine hK.out _ _ ⟨(blk_cell BK113.out 0).trans rfl, (blk_cell BK101.out 0).trans rfl⟩ (fun hHeld => ?_)
            clear hK K
            refine norm_ (a' := ?_) ?_ ?_
            rotate_left
            · show Act.put _ (some 43) _ = _
              simp only [Act.put, List.setIfInBounds_toArray, List.set_cons_zero, List.set_cons_succ, i64_w, i32_w]
              rfl
            refine one_ (i := 3) (N := some 44) #[true, true, true, true, false] rfl rfl (by kernel_rfl) (by decide) (fun K hK => ?_)
            refine goes_ Try.func12 (by kernel_rfl) rfl #[.agg #[.slice Ao22 t110.length co22], .agg #[.slice Ao40 t119.length co40]] (by rfl) rfl rfl (by (try simp only [List.map_toArray, List.map_cons, List.map_nil]); first | done | rfl | (simp only [List.length_drop, List.length_take]; rfl)) ?_
            with_reducible refine (laws_eqTasks.calls kj10 _ _ t110 _ _ t119 true _ ?side1 ?side2 ?side3 ?side4 A34.out).mono ?_
            (case side1 => repeat (first | exact (Kd.R_reads' HO_114000.out).2.2 | (with_reducible refine Kd.C_alloc ?_ _) | (with_reducible refine Kd.C_drewN ?_ _) | (with_reducible refine Kd.C_drew ?_)))
            (case side2 => exact (Kd.R_reads' HO_114000.out).2.1)
            (case side3 => repeat (first | exact (Kd.R_reads' HO121.out).2.2 | (with_reducible refine Kd.C_alloc ?_ _) | (with_reducible refine Kd.C_drewN ?_ _) | (with_reducible refine Kd.C_drew ?_)))
            (case side4 => exact (Kd.R_reads' HO121.out).2.1)
            rintro e w41 ⟨rfl, hb⟩
            refine ⟨_, rfl, ?_⟩
            have n0_ := Aside0.mk (Kd.R_below (by (with_reducible repeat (first | apply Kd.R_alloc | apply Kd.R_drewN | apply Kd.R_drew)); exact HO_4.out) hb)
            have n1_ := Aside0.mk (Kd.R_below (by (with_reducible repeat (first | apply Kd.R_alloc | apply Kd.R_drewN | apply Kd.R_drew)); exact HO_7.out) hb)
            have n2_ := Aside0.mk (Kd.R_below (by (with_reducible repeat (first | apply Kd.R_alloc | apply Kd.R_drewN | apply Kd.R_drew)); exact HO_114000.out) hb)
            have n3_ := Aside0.mk (Kd.R_below (by (with_reducible repeat (first | apply Kd.R_alloc | apply Kd.R_drewN | apply Kd.R_drew)); exact HO121.out) hb)
            have n4_ := Aside0.mk (blk_below (g := gb101) (o := .cells #[.slice A0_0 l0_0.length c0_0] 24 (0, 0)) (by (with_reducible repeat (first | refine blk_drewN ?_ _ | refine blk_drew ?_ | refine blk_alloc ?_ _)); exact BK101.out) hb)
            have n5_ := Aside0.mk (blk_below (g := gb113) (o := .cells #[.slice Ao22 t110.length co22] 28 (0, 0)) (by (with_reducible repeat (first | refine blk_drewN ?_ _ | refine blk_drew ?_ | refine blk_alloc ?_ _)); exact BK113.out) hb)
            have n6_ := Aside0.mk (below_step (by repeat (first | (with_reducible first | exact HB.out | apply below_alloc | apply pw_below_drewN | apply below_drew1 | refine below_set ?_ GE101.out | refine below_set ?_ GE113.out) | exact HB.out)) hb)
            clear HO_4
            clear HO_7
            clear HO_114000
            clear HO121
            clear BK101
            clear BK113
            clear HB
            have HO_4 := n0_
            have HO_7 := n1_
            have HO_114000 := n2_
            have HO121 := n3_
            have BK101 := n4_
            have BK113 := n5_
            have HB := n6_
            clear n0_ n1_ n2_ n3_ n4_ n5_ n6_
            (try clear hb)
            (try clear hb2)
            (try clear hk)
            (try clear hi)
            refine hK.out _ _ ⟨(blk_cell BK113.out 0).trans rfl, (blk_cell BK101.out 0).trans rfl⟩ (fun hHeld => ?_)
            clear hK K
            refine norm_ (a' := ?_) ?_ ?_
            rotate_left
            · show Act.put _ (some 44) _ = _
              simp only [Act.put, List.setIfInBounds_toArray, List.set_cons_zero, List.set_cons_succ, i64_w, i32_w]
              rfl
            refine pure_ (i := 4) (N := some 45) (v := ?_) (a' := ?_) #[true, true, true, true, true] rfl rfl (by kernel_rfl) (fun _ _ _ h => h) (Or.inl ⟨by rfl, ?_⟩) ?_ ?_
            rotate_left
            · intro w'
              go_simp
              with_reducible rfl
            rotate_left
            · simp only [Act.put, List.setIfInBounds_toArray, List.set_cons_zero, List.set_cons_succ, i64_w, i32_w]
              rfl
            refine done_ (by kernel_rfl) ?_
            have hnb42 := NB113_101.out
            have hnc42 := NB101_113.out
            have hcz43_0 : w41.cell? ⟨gb113, 0, none⟩ = some (.slice Ao22 t110.length co22) := (blk_cell BK113.out 0).trans rfl
            have hfz43_0 := blk_frozen BK113.out 0
            go_upto_region 14 with (first | ((with_reducible refine gate_callee (f := 13) rfl ?_); refine goesL_ (some 48) rfl rfl Try.func13 (by kernel_rfl) rfl #[.agg #[.slice Ao22 t110.length co22], .int .i64 1] rfl (by (try simp only [List.map_toArray, List.map_cons, List.map_nil]); first | done | rfl | (simp only [List.length_drop, List.length_take]; rfl)) ?_; (with_reducible refine (laws_markTasks.calls kj10 (fun k_ => some k_ = (.slice Ao22 t110.length co22 : Value).ownBlock) (.slice Ao22 t110.length co22) t110 1 t123 t124 w _ ?side1 ?side2 A36.out).mono ?_); (case side1 => repeat (first | (with_reducible first | exact HB.out | apply below_alloc | apply pw_below_drewN | apply below_drew1 | refine below_set ?_ GE101.out | refine below_set ?_ GE113.out) | exact HB.out)); (case side2 => exact Kd.R_tight rfl HO_114000.out); rintro e w44 ⟨rfl, hy0, hb, hkp⟩; refine ⟨_, rfl, ?_⟩; have n0_ := Aside0.mk (Kd.R_mono (ok' := fun k_ => some k_ ≠ (v115 : Value).ownBlock ∧ some k_ ≠ (.slice Ao22 t110.length co22 : Value).ownBlock ∧ some k_ ≠ (.slice Ao40 t119.length co40 : Value).ownBlock) (Kd.R_keptB (HO_4.out) hkp (fun k_ hk_ hs_ => (hk_.1.2) hs_)) (fun k_ hk_ => ⟨hk_.1.1.1, hk_.1.1.2, hk_.1.2⟩)); have n1_ := Aside0.mk (Kd.R_mono (ok' := fun k_ => some k_ ≠ (v107 : Value).ownBlock ∧ some k_ ≠ (.slice Ao22 t110.length co22 : Value).ownBlock ∧ some k_ ≠ (.slice Ao40 t119.length co40 : Value).ownBlock) (Kd.R_keptB (HO_7.out) hkp (fun k_ hk_ hs_ => (hk_.1.2) hs_)) (fun k_ hk_ => ⟨hk_.1.1.1, hk_.1.1.2, hk_.1.2⟩)); have n2_ := Aside0.mk (Kd.R_reok rfl hy0 (fun k_ e_ => HO_114000.out.1 k_ e_)); have n3_ := Aside0.mk (blk_kept (by (with_reducible repeat (first | refine blk_drewN ?_ _ | refine blk_drew ?_ | refine blk_alloc ?_ _)); exact BK101.out) hkp (fun hs_ => (fun e_ => (Kd.R_ne HO_114000.out BK101.out (by decide)) e_) hs_)); have n4_ := Aside0.mk (blk_kept (by (with_reducible repeat (first | refine blk_drewN ?_ _ | refine blk_drew ?_ | refine blk_alloc ?_ _)); exact BK113.out) hkp (fun hs_ => (fun e_ => (Kd.R_ne HO_114000.out BK113.out (by decide)) e_) hs_)); have n5_ := Aside0.mk (Kd.R_mono (ok' := fun k_ => some k_ ≠ (v107 : Value).ownBlock ∧ some k_ ≠ (v115 : Value).ownBlock ∧ some k_ ≠ (.slice Ao22 t110.length co22 : Value).ownBlock) (Kd.R_keptB (HO121.out) hkp (fun k_ hk_ hs_ => (hk_.2) hs_)) (fun k_ hk_ => ⟨hk_.1.1.1.2, hk_.1.1.2, hk_.1.2⟩)); have n6_ := Aside0.mk (hb); clear HO_4; clear HO_7; clear HO_114000; clear BK101; clear BK113; clear HO121; clear HB; have HO_4 := n0_; have HO_7 := n1_; have HO_114000 := n2_; have BK101 := n3_; have BK113 := n4_; have HO121 := n5_; have HB := n6_; clear n0_ n1_ n2_ n3_ n4_ n5_ n6_; (try clear hb); (try clear hkp); (try clear hy0)))
            (try simp only [Act.put, List.setIfInBounds_toArray, List.set_cons_zero, List.set_cons_succ])
            go_cut [61] (fun v61 wc => ∃ (kq : Nat) (x61_36 : Bool), v61 = .bool x61_36 ∧ Aside0 (laws_FnExactTurnsByPowers.j1 kq t106 t109 t114 x61_36 l0_0 = some r) ∧ Aside0 (kq ≤ kj10) ∧ Aside0 (Kd.R (Kd.int .i64) 2 wc w.heap.size (fun k_ => some k_ ≠ (v115 : Value).ownBlock ∧ some k_ ≠ ((.slice Ao22 t110.length co22) : Value).ownBlock) v107 t106) ∧ Aside0 (Kd.R (Kd.int .i64) 2 wc w.heap.size (fun k_ => some k_ ≠ (v107 : Value).ownBlock ∧ some k_ ≠ ((.slice Ao22 t110.length co22) : Value).ownBlock) v115 t114) ∧ Aside0 (Kd.R (Kd.int .i64) 2 wc w.heap.size (fun k_ => some k_ ≠ (v107 : Value).ownBlock ∧ some k_ ≠ (v115 : Value).ownBlock) (.slice Ao22 t110.length co22) t124) ∧ Aside0 (wc.heap[gb101]? = some (.cells #[(.slice A0_0 l0_0.length c0_0)] 24 (0, 0))) ∧ Aside0 (wc.heap[gb113]? = some (.cells #[(.slice Ao22 t110.length co22)] 28 (0, 0))) ∧ Aside0 (Below w.heap.size w wc))
            case first =>
              have H := HC37.out
              clear HC37
              by_cases c45 : t123 < 0
              · rw [if_pos c45] at H
                have c45b0 : decide (t123 < 0) = true := decide_eq_true c45
                clear c45
                (first | rw [c45b0] | (simp only [i64_w, i32_w]; rw [c45b0]) | skip)
                have H' := Aside0.mk H
                clear H
                go_wp2
                go_meet
                case rel => exact ⟨_, (true), (by first | rfl | (simp; done) | (simp [*]; done)), H', ⟨by have := HJ10.out; first | omega | exact Nat.le_refl _⟩, ⟨by (with_reducible repeat (first | apply Kd.R_alloc | apply Kd.R_drewN | apply Kd.R_drew)); exact Kd.R_mono HO_4.out (fun _ hk => ⟨hk.1, hk.2.1⟩)⟩, ⟨by (with_reducible repeat (first | apply Kd.R_alloc | apply Kd.R_drewN | apply Kd.R_drew)); exact Kd.R_mono HO_7.out (fun _ hk => ⟨hk.1, hk.2.1⟩)⟩, ⟨by (with_reducible repeat (first | apply Kd.R_alloc | apply Kd.R_drewN | apply Kd.R_drew)); exact Kd.R_mono HO_114000.out (fun _ hk => ⟨hk.1.1, hk.1.2⟩)⟩, ⟨by (with_reducible repeat (first | refine blk_drewN ?_ _ | refine blk_drew ?_ | refine blk_alloc ?_ _)); exact BK101.out⟩, ⟨by (with_reducible repeat (first | refine blk_drewN ?_ _ | refine blk_drew ?_ | refine blk_alloc ?_ _)); exact BK113.out⟩, ⟨by repeat (first | (with_reducible first | exact HB.out | apply below_alloc | apply pw_below_drewN | apply below_drew1 | refine below_set ?_ GE101.out | refine below_set ?_ GE113.out) | exact HB.out)⟩⟩
              · rw [if_neg c45] at H
                have c45b0 : decide (t123 < 0) = false := decide_eq_false c45
                clear c45
                (first | rw [c45b0] | (simp only [i64_w, i32_w]; rw [c45b0]) | skip)
                replace H := Option.bind_eq_some_iff.mp H
                obtain ⟨t125, A460, H⟩ := H
                replace H : (if t125 = true then (laws_FnExactTurnsByPowers.j1 kj10 t106 t109 t114 (t117 != t109) l0_0) else (laws_FnExactTurnsByPowers.j1 kj10 t106 t109 t114 true l0_0)) = some r := H
                have A46 := Aside0.mk A460
                clear A460
                by_cases c47 : t125 = true
                · subst c47
                  have H1 : (laws_FnExactTurnsByPowers.j1 kj10 t106 t109 t114 (t117 != t109) l0_0) = some r := by rw [if_pos rfl] at H; exact H
                  clear H
                  have H := H1
                  clear H1
                  have H' := Aside0.mk H
                  clear H
                  obtain ⟨Ao48, co48, eo48⟩ := Kd.R_slice HO_7.out
                  subst eo48
                  obtain ⟨Ao49, co49, eo49⟩ := Kd.R_slice HO_4.out
                  subst eo49
                  go_wp2_with (first | (go_at_call 11; (with_reducible refine (laws_eqInt64S.calls kj10 _ _ t114 _ _ t106 true _ ?side1 ?side2 ?side3 ?side4 A46.out).mono ?_); (case side1 => repeat (first | exact (Kd.R_reads' HO_7.out).2.2 | (with_reducible refine Kd.C_alloc ?_ _) | (with_reducible refine Kd.C_drewN ?_ _) | (with_reducible refine Kd.C_drew ?_))); (case side2 => exact (Kd.R_reads' HO_7.out).2.1); (case side3 => repeat (first | exact (Kd.R_reads' HO_4.out).2.2 | (with_reducible refine Kd.C_alloc ?_ _) | (with_reducible refine Kd.C_drewN ?_ _) | (with_reducible refine Kd.C_drew ?_))); (case side4 => exact (Kd.R_reads' HO_4.out).2.1); rintro e w' ⟨rfl, ⟨nd, rfl⟩⟩))
                  go_meet
                  case rel => exact ⟨_, ((t117 != t109)), (by first | rfl | (simp; done) | (simp [*]; done)), H', ⟨by have := HJ10.out; first | omega | exact Nat.le_refl _⟩, ⟨by (with_reducible repeat (first | apply Kd.R_alloc | apply Kd.R_drewN | apply Kd.R_drew)); exact Kd.R_mono HO_4.out (fun _ hk => ⟨hk.1, hk.2.1⟩)⟩, ⟨by (with_reducible repeat (first | apply Kd.R_alloc | apply Kd.R_drewN | apply Kd.R_drew)); exact Kd.R_mono HO_7.out (fun _ hk => ⟨hk.1, hk.2.1⟩)⟩, ⟨by (with_reducible repeat (first | apply Kd.R_alloc | apply Kd.R_drewN | apply Kd.R_drew)); exact Kd.R_mono HO_114000.out (fun _ hk => ⟨hk.1.1, hk.1.2⟩)⟩, ⟨by (with_reducible repeat (first | refine blk_drewN ?_ _ | refine blk_drew ?_ | refine blk_alloc ?_ _)); exact BK101.out⟩, ⟨by (with_reducible repeat (first | refine blk_drewN ?_ _ | refine blk_drew ?_ | refine blk_alloc ?_ _)); exact BK113.out⟩, ⟨by repeat (first | (with_reducible first | exact HB.out | apply below_alloc | apply pw_below_drewN | apply below_drew1 | refine below_set ?_ GE101.out | refine below_set ?_ GE113.out) | exact HB.out)⟩⟩
                · replace c47 := Bool.eq_false_iff.mpr c47
                  subst c47
                  have H1 : (laws_FnExactTurnsByPowers.j1 kj10 t106 t109 t114 true l0_0) = some r := by rw [if_neg (show ¬ (false = true) by decide)] at H; exact H
                  clear H
                  have H := H1
                  clear H1
                  have H' := Aside0.mk H
                  clear H
                  obtain ⟨Ao50, co50, eo50⟩ := Kd.R_slice HO_7.out
                  subst eo50
                  obtain ⟨Ao51, co51, eo51⟩ := Kd.R_slice HO_4.out
                  subst eo51
                  go_wp2_with (first | (go_at_call 11; (with_reducible refine (laws_eqInt64S.calls kj10 _ _ t114 _ _ t106 false _ ?side1 ?side2 ?side3 ?side4 A46.out).mono ?_); (case side1 => repeat (first | exact (Kd.R_reads' HO_7.out).2.2 | (with_reducible refine Kd.C_alloc ?_ _) | (with_reducible refine Kd.C_drewN ?_ _) | (with_reducible refine Kd.C_drew ?_))); (case side2 => exact (Kd.R_reads' HO_7.out).2.1); (case side3 => repeat (first | exact (Kd.R_reads' HO_4.out).2.2 | (with_reducible refine Kd.C_alloc ?_ _) | (with_reducible refine Kd.C_drewN ?_ _) | (with_reducible refine Kd.C_drew ?_))); (case side4 => exact (Kd.R_reads' HO_4.out).2.1); rintro e w' ⟨rfl, ⟨nd, rfl⟩⟩))
                  go_meet
                  case rel => exact ⟨_, (true), (by first | rfl | (simp; done) | (simp [*]; done)), H', ⟨by have := HJ10.out; first | omega | exact Nat.le_refl _⟩, ⟨by (with_reducible repeat (first | apply Kd.R_alloc | apply Kd.R_drewN | apply Kd.R_drew)); exact Kd.R_mono HO_4.out (fun _ hk => ⟨hk.1, hk.2.1⟩)⟩, ⟨by (with_reducible repeat (first | apply Kd.R_alloc | apply Kd.R_drewN | apply Kd.R_drew)); exact Kd.R_mono HO_7.out (fun _ hk => ⟨hk.1, hk.2.1⟩)⟩, ⟨by (with_reducible repeat (first | apply Kd.R_alloc | apply Kd.R_drewN | apply Kd.R_drew)); exact Kd.R_mono HO_114000.out (fun _ hk => ⟨hk.1.1, hk.1.2⟩)⟩, ⟨by (with_reducible repeat (first | refine blk_drewN ?_ _ | refine blk_drew ?_ | refine blk_alloc ?_ _)); exact BK101.out⟩, ⟨by (with_reducible repeat (first | refine blk_drewN ?_ _ | refine blk_drew ?_ | refine blk_alloc ?_ _)); exact BK113.out⟩, ⟨by repeat (first | (with_reducible first | exact HB.out | apply below_alloc | apply pw_below_drewN | apply below_drew1 | refine below_set ?_ GE101.out | refine below_set ?_ GE113.out) | exact HB.out)⟩⟩
            case rest =>
              clear HC37
              try clear c1
              try clear c2
              try clear p2
              try clear c3
              try clear c3b0
              try clear c4
              try clear c7
              try clear c8
              try clear c9
              try clear c10
              try clear c11
              try clear c12
              try clear c13
              try clear c23
              try clear c27
              try clear c32
              try clear c35
              try clear c42
              try clear c45
              try clear c45b0
              try clear c47
              try clear hcz13_0
              try clear hcz15_0
              try clear hcz19_0
              try clear hcz24_0
              try clear hcz43_0
              try clear hcz5_0
              try clear hfz13_0
              try clear hfz15_0
              try clear hfz19_0
              try clear hfz24_0
              try clear hfz43_0
              try clear hfz5_0
              try clear p2
              obtain ⟨kq, x61_36, rfl, HA, HJ36, HO_4, HO_7, HO_114000, BK101, BK113, HB⟩ := hcut
              have hl114000_36 := (Kd.R_reads' HO_114000.out).1
              rw [hl114000_36] at HO_114000
              (try simp only [hl114000_36])
              (try simp only [hl114000_36] at BK101)
              (try simp only [hl114000_36] at BK113)
              (try simp only [hl114000_36] at HO_4)
              (try simp only [hl114000_36] at HO_7)
              cases kq with
              | zero => exact absurd HA.out (by simp [laws_FnExactTurnsByPowers.j1])
              | succ kj36 =>
                have H := HA.out
                clear HA
                simp only [laws_FnExactTurnsByPowers.j1] at H
                by_cases c52 : x61_36 = true
                · subst c52
                  have H1 : (some false) = some r := by rw [if_pos rfl] at H; exact H
                  clear H
                  have H := H1
                  clear H1
                  obtain rfl := Option.some.inj H
                  go_wp2
                  go_ret
                  exact ⟨by first | rfl | (simp [errW_none, errW_some] <;> rfl) | (simp [*, errW_none, errW_some] <;> rfl), by repeat (first | (with_reducible first | exact HB.out | apply below_alloc | apply pw_below_drewN | apply below_drew1 | refine below_set ?_ GE101.out | refine below_set ?_ GE113.out) | exact HB.out)⟩
                · replace c52 := Bool.eq_false_iff.mpr c52
                  subst c52
                  have H1 : ((laws_markInt64S.f kj36 t114 1).bind fun bt126 => ((laws_heldInt64S.f kj36 bt126.2 1).bind fun t128 => (if t128 < 0 then (some false) else (if t128 = bt126.1 then ((laws_toTasks.f kj36 l0_0).bind fun t129 => ((impl_TurnsByPowers.f kj36 t129).bind fun bt132 => ((laws_eqInt64S.f kj36 bt132.1 t106).bind fun t136 => (if t136 = true then (laws_FnExactTurnsByPowers.j2 kj36 bt126.2 bt126.1 (bt132.2 != t109)) else (laws_FnExactTurnsByPowers.j2 kj36 bt126.2 bt126.1 true))))) else (some false))))) = some r := by rw [if_neg (show ¬ (false = true) by decide)] at H; exact H
                  clear H
                  have H := H1
                  clear H1
                  replace H := Option.bind_eq_some_iff.mp H
                  obtain ⟨⟨t126, t127⟩, A530, H⟩ := H
                  replace H : ((laws_heldInt64S.f kj36 t127 1).bind fun t128 => (if t128 < 0 then (some false) else (if t128 = t126 then ((laws_toTasks.f kj36 l0_0).bind fun t129 => ((impl_TurnsByPowers.f kj36 t129).bind fun bt132 => ((laws_eqInt64S.f kj36 bt132.1 t106).bind fun t136 => (if t136 = true then (laws_FnExactTurnsByPowers.j2 kj36 t127 t126 (bt132.2 != t109)) else (laws_FnExactTurnsByPowers.j2 kj36 t127 t126 true))))) else (some false)))) = some r := H
                  have A53 := Aside0.mk A530
                  clear A530
                  replace H := Option.bind_eq_some_iff.mp H
                  obtain ⟨t128, A540, H⟩ := H
                  replace H : (if t128 < 0 then (some false) else (if t128 = t126 then ((laws_toTasks.f kj36 l0_0).bind fun t129 => ((impl_TurnsByPowers.f kj36 t129).bind fun bt132 => ((laws_eqInt64S.f kj36 bt132.1 t106).bind fun t136 => (if t136 = true then (laws_FnExactTurnsByPowers.j2 kj36 t127 t126 (bt132.2 != t109)) else (laws_FnExactTurnsByPowers.j2 kj36 t127 t126 true))))) else (some false))) = some r := H
                  have A54 := Aside0.mk A540
                  clear A540
                  by_cases c55 : t128 < 0
                  · rw [if_pos c55] at H
                    have c55b0 : decide (t128 < 0) = true := decide_eq_true c55
                    clear c55
                    obtain rfl := Option.some.inj H
                    obtain ⟨Ao56, co56, eo56⟩ := Kd.R_slice HO_7.out
                    subst eo56
                    go_wp2_with (first | ((with_reducible refine gate_callee (f := 14) rfl ?_); refine goesL_ (some 64) rfl rfl Try.func14 (by kernel_rfl) rfl #[.slice Ao56 t114.length co56, .int .i64 1] rfl (by (try simp only [List.map_toArray, List.map_cons, List.map_nil]); first | done | rfl | (simp only [List.length_drop, List.length_take]; rfl)) ?_; (with_reducible refine (laws_markInt64S.calls kj36 (fun k_ => some k_ = (.slice Ao56 t114.length co56 : Value).ownBlock) (.slice Ao56 t114.length co56) t114 1 t126 t127 w _ ?side1 ?side2 A53.out).mono ?_); (case side1 => repeat (first | (with_reducible first | exact HB.out | apply below_alloc | apply pw_below_drewN | apply below_drew1 | refine below_set ?_ GE101.out | refine below_set ?_ GE113.out) | exact HB.out)); (case side2 => exact Kd.R_tight rfl HO_7.out); rintro e w57 ⟨rfl, hy0, hb, hkp⟩; refine ⟨_, rfl, ?_⟩; have n0_ := Aside0.mk (Kd.R_mono (ok' := fun k_ => some k_ ≠ (.slice Ao56 t114.length co56 : Value).ownBlock ∧ some k_ ≠ (.slice Ao22 t124.length co22 : Value).ownBlock) (Kd.R_keptB (HO_4.out) hkp (fun k_ hk_ hs_ => (hk_.1) hs_)) (fun k_ hk_ => ⟨hk_.1.1, hk_.1.2⟩)); have n1_ := Aside0.mk (Kd.R_reok rfl hy0 (fun k_ e_ => HO_7.out.1 k_ e_)); have n2_ := Aside0.mk (Kd.R_mono (ok' := fun k_ => some k_ ≠ (v107 : Value).ownBlock ∧ some k_ ≠ (.slice Ao56 t114.length co56 : Value).ownBlock) (Kd.R_keptB (HO_114000.out) hkp (fun k_ hk_ hs_ => (hk_.2) hs_)) (fun k_ hk_ => ⟨hk_.1.1, hk_.1.2⟩)); have n3_ := Aside0.mk (blk_kept (by (with_reducible repeat (first | refine blk_drewN ?_ _ | refine blk_drew ?_ | refine blk_alloc ?_ _)); exact BK101.out) hkp (fun hs_ => (fun e_ => (Kd.R_ne HO_7.out BK101.out (by decide)) e_) hs_)); have n4_ := Aside0.mk (blk_kept (by (with_reducible repeat (first | refine blk_drewN ?_ _ | refine blk_drew ?_ | refine blk_alloc ?_ _)); exact BK113.out) hkp (fun hs_ => (fun e_ => (Kd.R_ne HO_7.out BK113.out (by decide)) e_) hs_)); have n5_ := Aside0.mk (hb); clear HO_4; clear HO_7; clear HO_114000; clear BK101; clear BK113; clear HB; have HO_4 := n0_; have HO_7 := n1_; have HO_114000 := n2_; have BK101 := n3_; have BK113 := n4_; have HB := n5_; clear n0_ n1_ n2_ n3_ n4_ n5_; (try clear hb); (try clear hkp); (try clear hy0)) | ((with_reducible refine gate_callee (f := 15) rfl ?_); refine goesL_ (some 67) rfl rfl Try.func15 (by kernel_rfl) rfl #[.slice Ao56 t127.length co56, .int .i64 1] rfl (by (try simp only [List.map_toArray, List.map_cons, List.map_nil]); first | done | (rw [show t127.length = t114.length from (Kd.R_reads' HO_7.out).1.symm] <;> rfl) | rfl | (simp only [List.length_drop, List.length_take]; rfl)) ?_; (with_reducible refine (laws_heldInt64S.calls kj36 _ _ t127 1 t128 _ ?side1 ?side2 A54.out).mono ?_); (case side1 => repeat (first | exact (Kd.R_reads' HO_7.out).2.2 | (with_reducible refine Kd.C_alloc ?_ _) | (with_reducible refine Kd.C_drewN ?_ _) | (with_reducible refine Kd.C_drew ?_))); (case side2 => rw [show t127.length = t114.length from (Kd.R_reads' HO_7.out).1.symm]; exact (Kd.R_reads' HO_7.out).2.1); rintro e w' ⟨rfl, ⟨nd, rfl⟩⟩; refine ⟨_, rfl, ?_⟩))
                    go_ret
                    exact ⟨by first | rfl | (simp [errW_none, errW_some] <;> rfl) | (simp [*, errW_none, errW_some] <;> rfl), by repeat (first | (with_reducible first | exact HB.out | apply below_alloc | apply pw_below_drewN | apply below_drew1 | refine below_set ?_ GE101.out | refine below_set ?_ GE113.out) | exact HB.out)⟩
                  · rw [if_neg c55] at H
                    have c55b0 : decide (t128 < 0) = false := decide_eq_false c55
                    clear c55
                    by_cases c58 : t128 = t126
                    · rw [if_pos c58] at H
                      have c58b0 : (t128 == t126) = true := beq_iff_eq.mpr c58
                      have c58b1 : (t128 != t126) = false := bne_eq_false_iff_eq.mpr c58
                      clear c58
                      replace H := Option.bind_eq_some_iff.mp H
                      obtain ⟨t129, A590, H⟩ := H
                      replace H : ((impl_TurnsByPowers.f kj36 t129).bind fun bt132 => ((laws_eqInt64S.f kj36 bt132.1 t106).bind fun t136 => (if t136 = true then (laws_FnExactTurnsByPowers.j2 kj36 t127 t126 (bt132.2 != t109)) else (laws_FnExactTurnsByPowers.j2 kj36 t127 t126 true)))) = some r := H
                      have A59 := Aside0.mk A590
                      clear A590
                      replace H := Option.bind_eq_some_iff.mp H
                      obtain ⟨⟨t132, t135⟩, A600, H⟩ := H
                      replace H : ((laws_eqInt64S.f kj36 t132 t106).bind fun t136 => (if t136 = true then (laws_FnExactTurnsByPowers.j2 kj36 t127 t126 (t135 != t109)) else (laws_FnExactTurnsByPowers.j2 kj36 t127 t126 true))) = some r := H
                      have A60 := Aside0.mk A600
                      clear A600
                      have HC61 := Aside0.mk H
                      clear H
                      obtain ⟨Ao62, co62, eo62⟩ := Kd.R_slice HO_7.out
                      subst eo62
                      go_upto_region 25 with (first | ((with_reducible refine gate_callee (f := 14) rfl ?_); refine goesL_ (some 64) rfl rfl Try.func14 (by kernel_rfl) rfl #[.slice Ao62 t114.length co62, .int .i64 1] rfl (by (try simp only [List.map_toArray, List.map_cons, List.map_nil]); first | done | rfl | (simp only [List.length_drop, List.length_take]; rfl)) ?_; (with_reducible refine (laws_markInt64S.calls kj36 (fun k_ => some k_ = (.slice Ao62 t114.length co62 : Value).ownBlock) (.slice Ao62 t114.length co62) t114 1 t126 t127 w _ ?side1 ?side2 A53.out).mono ?_); (case side1 => repeat (first | (with_reducible first | exact HB.out | apply below_alloc | apply pw_below_drewN | apply below_drew1 | refine below_set ?_ GE101.out | refine below_set ?_ GE113.out) | exact HB.out)); (case side2 => exact Kd.R_tight rfl HO_7.out); rintro e w63 ⟨rfl, hy0, hb, hkp⟩; refine ⟨_, rfl, ?_⟩; have n0_ := Aside0.mk (Kd.R_mono (ok' := fun k_ => some k_ ≠ (.slice Ao62 t114.length co62 : Value).ownBlock ∧ some k_ ≠ (.slice Ao22 t124.length co22 : Value).ownBlock) (Kd.R_keptB (HO_4.out) hkp (fun k_ hk_ hs_ => (hk_.1) hs_)) (fun k_ hk_ => ⟨hk_.1.1, hk_.1.2⟩)); have n1_ := Aside0.mk (Kd.R_reok rfl hy0 (fun k_ e_ => HO_7.out.1 k_ e_)); have n2_ := Aside0.mk (Kd.R_mono (ok' := fun k_ => some k_ ≠ (v107 : Value).ownBlock ∧ some k_ ≠ (.slice Ao62 t114.length co62 : Value).ownBlock) (Kd.R_keptB (HO_114000.out) hkp (fun k_ hk_ hs_ => (hk_.2) hs_)) (fun k_ hk_ => ⟨hk_.1.1, hk_.1.2⟩)); have n3_ := Aside0.mk (blk_kept (by (with_reducible repeat (first | refine blk_drewN ?_ _ | refine blk_drew ?_ | refine blk_alloc ?_ _)); exact BK101.out) hkp (fun hs_ => (fun e_ => (Kd.R_ne HO_7.out BK101.out (by decide)) e_) hs_)); have n4_ := Aside0.mk (blk_kept (by (with_reducible repeat (first | refine blk_drewN ?_ _ | refine blk_drew ?_ | refine blk_alloc ?_ _)); exact BK113.out) hkp (fun hs_ => (fun e_ => (Kd.R_ne HO_7.out BK113.out (by decide)) e_) hs_)); have n5_ := Aside0.mk (hb); clear HO_4; clear HO_7; clear HO_114000; clear BK101; clear BK113; clear HB; have HO_4 := n0_; have HO_7 := n1_; have HO_114000 := n2_; have BK101 := n3_; have BK113 := n4_; have HB := n5_; clear n0_ n1_ n2_ n3_ n4_ n5_; (try clear hb); (try clear hkp); (try clear hy0)) | ((with_reducible refine gate_callee (f := 15) rfl ?_); refine goesL_ (some 67) rfl rfl Try.func15 (by kernel_rfl) rfl #[.slice Ao62 t127.length co62, .int .i64 1] rfl (by (try simp only [List.map_toArray, List.map_cons, List.map_nil]); first | done | (rw [show t127.length = t114.length from (Kd.R_reads' HO_7.out).1.symm] <;> rfl) | rfl | (simp only [List.length_drop, List.length_take]; rfl)) ?_; (with_reducible refine (laws_heldInt64S.calls kj36 _ _ t127 1 t128 _ ?side1 ?side2 A54.out).mono ?_); (case side1 => repeat (first | exact (Kd.R_reads' HO_7.out).2.2 | (with_reducible refine Kd.C_alloc ?_ _) | (with_reducible refine Kd.C_drewN ?_ _) | (with_reducible refine Kd.C_drew ?_))); (case side2 => rw [show t127.length = t114.length from (Kd.R_reads' HO_7.out).1.symm]; exact (Kd.R_reads' HO_7.out).2.1); rintro e w' ⟨rfl, ⟨nd, rfl⟩⟩; refine ⟨_, rfl, ?_⟩; have hnb64 := NB101_113.out; have hnc64 := NB113_101.out; have hcz65_0 : w63.cell? ⟨gb101, 0, none⟩ = some (.slice A0_0 l0_0.length c0_0) := (blk_cell BK101.out 0).trans rfl; have hfz65_0 := blk_frozen BK101.out 0) | ((with_reducible refine gate_callee (f := 9) rfl ?_); refine goesL_ (some 75) rfl rfl Try.func9 (by kernel_rfl) rfl #[.agg #[.slice A0_0 l0_0.length c0_0]] rfl (by (try simp only [List.map_toArray, List.map_cons, List.map_nil]); first | done | rfl | (simp only [List.length_drop, List.length_take]; rfl)) ?_; (with_reducible refine (laws_toTasks.calls kj36 _ _ l0_0 t129 _ ?side1 ?side2 A59.out).mono ?_); (case side1 => repeat (first | exact (Kd.C_below HR0_0.out (by repeat (first | (with_reducible first | exact HB.out | apply below_alloc | apply pw_below_drewN | apply below_drew1 | refine below_set ?_ GE101.out | refine below_set ?_ GE113.out) | exact HB.out))) | (with_reducible refine Kd.C_alloc ?_ _) | (with_reducible refine Kd.C_drewN ?_ _) | (with_reducible refine Kd.C_drew ?_))); (case side2 => exact HC0_0.out); rintro e w66 ⟨v130, rfl, ho0, hb⟩; refine ⟨_, rfl, ?_⟩; have n0_ := Aside0.mk (Kd.R_elder' (by (with_reducible repeat (first | apply Kd.R_alloc | apply Kd.R_drewN | apply Kd.R_drew)); exact HO_4.out) (Kd.R_base ho0) hb); have n1_ := Aside0.mk (Kd.R_elder' (by (with_reducible repeat (first | apply Kd.R_alloc | apply Kd.R_drewN | apply Kd.R_drew)); exact HO_7.out) (Kd.R_base ho0) hb); have n2_ := Aside0.mk (Kd.R_elder' (by (with_reducible repeat (first | apply Kd.R_alloc | apply Kd.R_drewN | apply Kd.R_drew)); exact HO_114000.out) (Kd.R_base ho0) hb); have n3_ := Aside0.mk (Kd.R_lower (Kd.R_new' (Kd.R_new' (Kd.R_new' ho0 (Kd.R_lt (by (with_reducible repeat (first | apply Kd.R_alloc | apply Kd.R_drewN | apply Kd.R_drew)); exact HO_4.out))) (Kd.R_lt (by (with_reducible repeat (first | apply Kd.R_alloc | apply Kd.R_drewN | apply Kd.R_drew)); exact HO_7.out))) (Kd.R_lt (by (with_reducible repeat (first | apply Kd.R_alloc | apply Kd.R_drewN | apply Kd.R_drew)); exact HO_114000.out))) (below_size (by repeat (first | (with_reducible first | exact HB.out | apply below_alloc | apply pw_below_drewN | apply below_drew1 | refine below_set ?_ GE101.out | refine below_set ?_ GE113.out) | exact HB.out)))); have n4_ := Aside0.mk (blk_below (g := gb101) (o := .cells #[.slice A0_0 l0_0.length c0_0] 24 (0, 0)) (by (with_reducible repeat (first | refine blk_drewN ?_ _ | refine blk_drew ?_ | refine blk_alloc ?_ _)); exact BK101.out) hb); have n5_ := Aside0.mk (blk_below (g := gb113) (o := .cells #[.slice Ao22 t124.length co22] 28 (0, 0)) (by (with_reducible repeat (first | refine blk_drewN ?_ _ | refine blk_drew ?_ | refine blk_alloc ?_ _)); exact BK113.out) hb); have n6_ := Aside0.mk (below_step (by repeat (first | (with_reducible first | exact HB.out | apply below_alloc | apply pw_below_drewN | apply below_drew1 | refine below_set ?_ GE101.out | refine below_set ?_ GE113.out) | exact HB.out)) hb); clear HO_4; clear HO_7; clear HO_114000; clear BK101; clear BK113; clear HB; have HO_4 := n0_; have HO_7 := n1_; have HO_114000 := n2_; have HO131 := n3_; have BK101 := n4_; have BK113 := n5_; have HB := n6_; clear n0_ n1_ n2_ n3_ n4_ n5_ n6_; (try clear hb); (try clear hb2); (try clear hk); (try clear hi); (try clear ho0); obtain ⟨Ao67, co67, eo67⟩ := Kd.R_slice HO131.out; subst eo67) | ((with_reducible refine gate_callee (f := 10) rfl ?_); refine goesL_ (some 76) rfl rfl Try.func10 (by kernel_rfl) rfl #[.agg #[.slice Ao67 t129.length co67]] rfl (by (try simp only [List.map_toArray, List.map_cons, List.map_nil]); first | done | rfl | (simp only [List.length_drop, List.length_take]; rfl)) ?_; (with_reducible refine (impl_TurnsByPowers.calls kj36 _ _ t129 t132 t135 _ ?side1 ?side2 A60.out).mono ?_); (case side1 => repeat (first | exact (Kd.R_reads' HO131.out).2.2 | (with_reducible refine Kd.C_alloc ?_ _) | (with_reducible refine Kd.C_drewN ?_ _) | (with_reducible refine Kd.C_drew ?_))); (case side2 => exact (Kd.R_reads' HO131.out).2.1); rintro e w68 ⟨v133, rfl, ho0, hb⟩; refine ⟨_, rfl, ?_⟩; have n0_ := Aside0.mk (Kd.R_elder' (by (with_reducible repeat (first | apply Kd.R_alloc | apply Kd.R_drewN | apply Kd.R_drew)); exact HO_4.out) (Kd.R_base ho0) hb); have n1_ := Aside0.mk (Kd.R_elder' (by (with_reducible repeat (first | apply Kd.R_alloc | apply Kd.R_drewN | apply Kd.R_drew)); exact HO_7.out) (Kd.R_base ho0) hb); have n2_ := Aside0.mk (Kd.R_elder' (by (with_reducible repeat (first | apply Kd.R_alloc | apply Kd.R_drewN | apply Kd.R_drew)); exact HO_114000.out) (Kd.R_base ho0) hb); have n3_ := Aside0.mk (Kd.R_elder' (by (with_reducible repeat (first | apply Kd.R_alloc | apply Kd.R_drewN | apply Kd.R_drew)); exact HO131.out) (Kd.R_base ho0) hb); have n4_ := Aside0.mk (Kd.R_lower (Kd.R_new' (Kd.R_new' (Kd.R_new' (Kd.R_new' ho0 (Kd.R_lt (by (with_reducible repeat (first | apply Kd.R_alloc | apply Kd.R_drewN | apply Kd.R_drew)); exact HO_4.out))) (Kd.R_lt (by (with_reducible repeat (first | apply Kd.R_alloc | apply Kd.R_drewN | apply Kd.R_drew)); exact HO_7.out))) (Kd.R_lt (by (with_reducible repeat (first | apply Kd.R_alloc | apply Kd.R_drewN | apply Kd.R_drew)); exact HO_114000.out))) (Kd.R_lt (by (with_reducible repeat (first | apply Kd.R_alloc | apply Kd.R_drewN | apply Kd.R_drew)); exact HO131.out))) (below_size (by repeat (first | (with_reducible first | exact HB.out | apply below_alloc | apply pw_below_drewN | apply below_drew1 | refine below_set ?_ GE101.out | refine below_set ?_ GE113.out) | exact HB.out)))); have n5_ := Aside0.mk (blk_below (g := gb101) (o := .cells #[.slice A0_0 l0_0.length c0_0] 24 (0, 0)) (by (with_reducible repeat (first | refine blk_drewN ?_ _ | refine blk_drew ?_ | refine blk_alloc ?_ _)); exact BK101.out) hb); have n6_ := Aside0.mk (blk_below (g := gb113) (o := .cells #[.slice Ao22 t124.length co22] 28 (0, 0)) (by (with_reducible repeat (first | refine blk_drewN ?_ _ | refine blk_drew ?_ | refine blk_alloc ?_ _)); exact BK113.out) hb); have n7_ := Aside0.mk (below_step (by repeat (first | (with_reducible first | exact HB.out | apply below_alloc | apply pw_below_drewN | apply below_drew1 | refine below_set ?_ GE101.out | refine below_set ?_ GE113.out) | exact HB.out)) hb); clear HO_4; clear HO_7; clear HO_114000; clear HO131; clear BK101; clear BK113; clear HB; have HO_4 := n0_; have HO_7 := n1_; have HO_114000 := n2_; have HO131 := n3_; have HO134 := n4_; have BK101 := n5_; have BK113 := n6_; have HB := n7_; clear n0_ n1_ n2_ n3_ n4_ n5_ n6_ n7_; (try clear hb); (try clear hb2); (try clear hk); (try clear hi); (try clear ho0)))
                      (try simp only [Act.put, List.setIfInBounds_toArray, List.set_cons_zero, List.set_cons_succ])
                      go_cut [87] (fun v87 wc => ∃ (kq : Nat) (x87_60 : Bool), v87 = .bool x87_60 ∧ Aside0 (laws_FnExactTurnsByPowers.j2 kq t127 t126 x87_60 = some r) ∧ Aside0 (kq ≤ kj36) ∧ Aside0 (Kd.R (Kd.int .i64) 2 wc w.heap.size (fun k_ => some k_ ≠ ((.slice Ao22 t124.length co22) : Value).ownBlock) (.slice Ao62 t114.length co62) t127) ∧ Aside0 (Kd.R (Kd.int .i64) 2 wc w.heap.size (fun k_ => some k_ ≠ ((.slice Ao62 t114.length co62) : Value).ownBlock) (.slice Ao22 t124.length co22) t124) ∧ Aside0 (wc.heap[gb101]? = some (.cells #[(.slice A0_0 l0_0.length c0_0)] 24 (0, 0))) ∧ Aside0 (wc.heap[gb113]? = some (.cells #[(.slice Ao22 t124.length co22)] 28 (0, 0))) ∧ Aside0 (Below w.heap.size w wc))
                      case first =>
                        have H := HC61.out
                        clear HC61
                        replace H := Option.bind_eq_some_iff.mp H
                        obtain ⟨t136, A690, H⟩ := H
                        replace H : (if t136 = true then (laws_FnExactTurnsByPowers.j2 kj36 t127 t126 (t135 != t109)) else (laws_FnExactTurnsByPowers.j2 kj36 t127 t126 true)) = some r := H
                        have A69 := Aside0.mk A690
                        clear A690
                        by_cases c70 : t136 = true
                        · subst c70
                          have H1 : (laws_FnExactTurnsByPowers.j2 kj36 t127 t126 (t135 != t109)) = some r := by rw [if_pos rfl] at H; exact H
                          clear H
                          have H := H1
                          clear H1
                          have H' := Aside0.mk H
                          clear H
                          obtain ⟨Ao71, co71, eo71⟩ := Kd.R_slice HO134.out
                          subst eo71
                          obtain ⟨Ao72, co72, eo72⟩ := Kd.R_slice HO_4.out
                          subst eo72
                          go_wp2_with (first | ((with_reducible refine gate_callee (f := 11) rfl ?_); refine goesL_ (some 81) rfl rfl Try.func11 (by kernel_rfl) rfl #[.slice Ao71 t132.length co71, .slice Ao72 t106.length co72] rfl (by (try simp only [List.map_toArray, List.map_cons, List.map_nil]); first | done | rfl | (simp only [List.length_drop, List.length_take]; rfl)) ?_; (with_reducible refine (laws_eqInt64S.calls kj36 _ _ t132 _ _ t106 true _ ?side1 ?side2 ?side3 ?side4 A69.out).mono ?_); (case side1 => repeat (first | exact (Kd.R_reads' HO134.out).2.2 | (with_reducible refine Kd.C_alloc ?_ _) | (with_reducible refine Kd.C_drewN ?_ _) | (with_reducible refine Kd.C_drew ?_))); (case side2 => exact (Kd.R_reads' HO134.out).2.1); (case side3 => repeat (first | exact (Kd.R_reads' HO_4.out).2.2 | (with_reducible refine Kd.C_alloc ?_ _) | (with_reducible refine Kd.C_drewN ?_ _) | (with_reducible refine Kd.C_drew ?_))); (case side4 => exact (Kd.R_reads' HO_4.out).2.1); rintro e w' ⟨rfl, ⟨nd, rfl⟩⟩; refine ⟨_, rfl, ?_⟩))
                          go_meet
                          case rel => exact ⟨_, ((t135 != t109)), (by first | rfl | (simp; done) | (simp [*]; done)), H', ⟨by have := HJ10.out; have := HJ36.out; first | omega | exact Nat.le_refl _⟩, ⟨by (try simp only [hl114000_36]); (with_reducible repeat (first | apply Kd.R_alloc | apply Kd.R_drewN | apply Kd.R_drew)); exact Kd.R_mono HO_7.out (fun _ hk => hk.1.1.2)⟩, ⟨by (try simp only [hl114000_36]); (with_reducible repeat (first | apply Kd.R_alloc | apply Kd.R_drewN | apply Kd.R_drew)); exact Kd.R_mono HO_114000.out (fun _ hk => hk.1.1.2)⟩, ⟨by (try simp only [hl114000_36]); (with_reducible repeat (first | refine blk_drewN ?_ _ | refine blk_drew ?_ | refine blk_alloc ?_ _)); exact BK101.out⟩, ⟨by (try simp only [hl114000_36]); (with_reducible repeat (first | refine blk_drewN ?_ _ | refine blk_drew ?_ | refine blk_alloc ?_ _)); exact BK113.out⟩, ⟨by repeat (first | (with_reducible first | exact HB.out | apply below_alloc | apply pw_below_drewN | apply below_drew1 | refine below_set ?_ GE101.out | refine below_set ?_ GE113.out) | exact HB.out)⟩⟩
                        · replace c70 := Bool.eq_false_iff.mpr c70
                          subst c70
                          have H1 : (laws_FnExactTurnsByPowers.j2 kj36 t127 t126 true) = some r := by rw [if_neg (show ¬ (false = true) by decide)] at H; exact H
                          clear H
                          have H := H1
                          clear H1
                          have H' := Aside0.mk H
                          clear H
                          obtain ⟨Ao73, co73, eo73⟩ := Kd.R_slice HO134.out
                          subst eo73
                          obtain ⟨Ao74, co74, eo74⟩ := Kd.R_slice HO_4.out
                          subst eo74
                          go_wp2_with (first | ((with_reducible refine gate_callee (f := 11) rfl ?_); refine goesL_ (some 81) rfl rfl Try.func11 (by kernel_rfl) rfl #[.slice Ao73 t132.length co73, .slice Ao74 t106.length co74] rfl (by (try simp only [List.map_toArray, List.map_cons, List.map_nil]); first | done | rfl | (simp only [List.length_drop, List.length_take]; rfl)) ?_; (with_reducible refine (laws_eqInt64S.calls kj36 _ _ t132 _ _ t106 false _ ?side1 ?side2 ?side3 ?side4 A69.out).mono ?_); (case side1 => repeat (first | exact (Kd.R_reads' HO134.out).2.2 | (with_reducible refine Kd.C_alloc ?_ _) | (with_reducible refine Kd.C_drewN ?_ _) | (with_reducible refine Kd.C_drew ?_))); (case side2 => exact (Kd.R_reads' HO134.out).2.1); (case side3 => repeat (first | exact (Kd.R_reads' HO_4.out).2.2 | (with_reducible refine Kd.C_alloc ?_ _) | (with_reducible refine Kd.C_drewN ?_ _) | (with_reducible refine Kd.C_drew ?_))); (case side4 => exact (Kd.R_reads' HO_4.out).2.1); rintro e w' ⟨rfl, ⟨nd, rfl⟩⟩; refine ⟨_, rfl, ?_⟩))
                          go_meet
                          case rel => exact ⟨_, (true), (by first | rfl | (simp; done) | (simp [*]; done)), H', ⟨by have := HJ10.out; have := HJ36.out; first | omega | exact Nat.le_refl _⟩, ⟨by (try simp only [hl114000_36]); (with_reducible repeat (first | apply Kd.R_alloc | apply Kd.R_drewN | apply Kd.R_drew)); exact Kd.R_mono HO_7.out (fun _ hk => hk.1.1.2)⟩, ⟨by (try simp only [hl114000_36]); (with_reducible repeat (first | apply Kd.R_alloc | apply Kd.R_drewN | apply Kd.R_drew)); exact Kd.R_mono HO_114000.out (fun _ hk => hk.1.1.2)⟩, ⟨by (try simp only [hl114000_36]); (with_reducible repeat (first | refine blk_drewN ?_ _ | refine blk_drew ?_ | refine blk_alloc ?_ _)); exact BK101.out⟩, ⟨by (try simp only [hl114000_36]); (with_reducible repeat (first | refine blk_drewN ?_ _ | refine blk_drew ?_ | refine blk_alloc ?_ _)); exact BK113.out⟩, ⟨by repeat (first | (with_reducible first | exact HB.out | apply below_alloc | apply pw_below_drewN | apply below_drew1 | refine below_set ?_ GE101.out | refine below_set ?_ GE113.out) | exact HB.out)⟩⟩
                      case rest =>
                        clear HC61
                        try clear c1
                        try clear c2
                        try clear p2
                        try clear c3
                        try clear c3b0
                        try clear c4
                        try clear c5
                        try clear c6
                        try clear c7
                        try clear c8
                        try clear c9
                        try clear c10
                        try clear c11
                        try clear c12
                        try clear c13
                        try clear c14
                        try clear c15
                        try clear c23
                        try clear c27
                        try clear c32
                        try clear c35
                        try clear c42
                        try clear c45
                        try clear c45b0
                        try clear c47
                        try clear c52
                        try clear c55
                        try clear c55b0
                        try clear c58
                        try clear c58b0
                        try clear c58b1
                        try clear c64
                        try clear c70
                        try clear hcz13_0
                        try clear hcz15_0
                        try clear hcz19_0
                        try clear hcz24_0
                        try clear hcz43_0
                        try clear hcz5_0
                        try clear hcz65_0
                        try clear hfz13_0
                        try clear hfz15_0
                        try clear hfz19_0
                        try clear hfz24_0
                        try clear hfz43_0
                        try clear hfz5_0
                        try clear hfz65_0
                        try clear p2
                        obtain ⟨kq, x87_60, rfl, HA, HJ60, HO_7, HO_114000, BK101, BK113, HB⟩ := hcut
                        have hl7_60 := (Kd.R_reads' HO_7.out).1
                        rw [hl7_60] at HO_7
                        (try simp only [hl7_60])
                        (try simp only [hl7_60] at BK101)
                        (try simp only [hl7_60] at BK113)
                        (try simp only [hl7_60] at HO_114000)
                        cases kq with
                        | zero => exact absurd HA.out (by simp [laws_FnExactTurnsByPowers.j2])
                        | succ kj60 =>
                          have H := HA.out
                          clear HA
                          simp only [laws_FnExactTurnsByPowers.j2] at H
                          by_cases c75 : x87_60 = true
                          · subst c75
                            have H1 : (some false) = some r := by rw [if_pos rfl] at H; exact H
                            clear H
                            have H := H1
                            clear H1
                            obtain rfl := Option.some.inj H
                            go_wp2
                            go_ret
                            exact ⟨by first | rfl | (simp [errW_none, errW_some] <;> rfl) | (simp [*, errW_none, errW_some] <;> rfl), by repeat (first | (with_reducible first | exact HB.out | apply below_alloc | apply pw_below_drewN | apply below_drew1 | refine below_set ?_ GE101.out | refine below_set ?_ GE113.out) | exact HB.out)⟩
                          · replace c75 := Bool.eq_false_iff.mpr c75
                            subst c75
                            have H1 : ((laws_heldInt64S.f kj60 t127 1).bind fun t137 => (if t137 < 0 then (some false) else (if t137 = t126 then (some true) else (some false)))) = some r := by rw [if_neg (show ¬ (false = true) by decide)] at H; exact H
                            clear H
                            have H := H1
                            clear H1
                            replace H := Option.bind_eq_some_iff.mp H
                            obtain ⟨t137, A760, H⟩ := H
                            replace H : (if t137 < 0 then (some false) else (if t137 = t126 then (some true) else (some false))) = some r := H
                            have A76 := Aside0.mk A760
                            clear A760
                            by_cases c77 : t137 < 0
                            · rw [if_pos c77] at H
                              have c77b0 : decide (t137 < 0) = true := decide_eq_true c77
                              clear c77
                              obtain rfl := Option.some.inj H
                              go_wp2_with (first | ((with_reducible refine gate_callee (f := 15) rfl ?_); refine goesL_ (some 90) rfl rfl Try.func15 (by kernel_rfl) rfl #[.slice Ao62 t127.length co62, .int .i64 1] rfl (by (try simp only [List.map_toArray, List.map_cons, List.map_nil]); first | done | rfl | (simp only [List.length_drop, List.length_take]; rfl)) ?_; (with_reducible refine (laws_heldInt64S.calls kj60 _ _ t127 1 t137 _ ?side1 ?side2 A76.out).mono ?_); (case side1 => repeat (first | exact (Kd.R_reads' HO_7.out).2.2 | (with_reducible refine Kd.C_alloc ?_ _) | (with_reducible refine Kd.C_drewN ?_ _) | (with_reducible refine Kd.C_drew ?_))); (case side2 => exact (Kd.R_reads' HO_7.out).2.1); rintro e w' ⟨rfl, ⟨nd, rfl⟩⟩; refine ⟨_, rfl, ?_⟩))
                              go_ret
                              exact ⟨by first | rfl | (simp [errW_none, errW_some] <;> rfl) | (simp [*, errW_none, errW_some] <;> rfl), by repeat (first | (with_reducible first | exact HB.out | apply below_alloc | apply pw_below_drewN | apply below_drew1 | refine below_set ?_ GE101.out | refine below_set ?_ GE113.out) | exact HB.out)⟩
                            · rw [if_neg c77] at H
                              have c77b0 : decide (t137 < 0) = false := decide_eq_false c77
                              clear c77
                              by_cases c78 : t137 = t126
                              · rw [if_pos c78] at H
                                have c78b0 : (t137 == t126) = true := beq_iff_eq.mpr c78
                                have c78b1 : (t137 != t126) = false := bne_eq_false_iff_eq.mpr c78
                                clear c78
                                obtain rfl := Option.some.inj H
                                go_wp2_with (first | ((with_reducible refine gate_callee (f := 15) rfl ?_); refine goesL_ (some 90) rfl rfl Try.func15 (by kernel_rfl) rfl #[.slice Ao62 t127.length co62, .int .i64 1] rfl (by (try simp only [List.map_toArray, List.map_cons, List.map_nil]); first | done | rfl | (simp only [List.length_drop, List.length_take]; rfl)) ?_; (with_reducible refine (laws_heldInt64S.calls kj60 _ _ t127 1 t137 _ ?side1 ?side2 A76.out).mono ?_); (case side1 => repeat (first | exact (Kd.R_reads' HO_7.out).2.2 | (with_reducible refine Kd.C_alloc ?_ _) | (with_reducible refine Kd.C_drewN ?_ _) | (with_reducible refine Kd.C_drew ?_))); (case side2 => exact (Kd.R_reads' HO_7.out).2.1); rintro e w' ⟨rfl, ⟨nd, rfl⟩⟩; refine ⟨_, rfl, ?_⟩))
                                go_ret
                                exact ⟨by first | rfl | (simp [errW_none, errW_some] <;> rfl) | (simp [*, errW_none, errW_some] <;> rfl), by repeat (first | (with_reducible first | exact HB.out | apply below_alloc | apply pw_below_drewN | apply below_drew1 | refine below_set ?_ GE101.out | refine below_set ?_ GE113.out) | exact HB.out)⟩
                              · rw [if_neg c78] at H
                                have c78b0 : (t137 == t126) = false := beq_eq_false_iff_ne.mpr c78
                                have c78b1 : (t137 != t126) = true := bne_iff_ne.mpr c78
                                obtain rfl := Option.some.inj H
                                go_wp2_with (first | ((with_reducible refine gate_callee (f := 15) rfl ?_); refine goesL_ (some 90) rfl rfl Try.func15 (by kernel_rfl) rfl #[.slice Ao62 t127.length co62, .int .i64 1] rfl (by (try simp only [List.map_toArray, List.map_cons, List.map_nil]); first | done | rfl | (simp only [List.length_drop, List.length_take]; rfl)) ?_; (with_reducible refine (laws_heldInt64S.calls kj60 _ _ t127 1 t137 _ ?side1 ?side2 A76.out).mono ?_); (case side1 => repeat (first | exact (Kd.R_reads' HO_7.out).2.2 | (with_reducible refine Kd.C_alloc ?_ _) | (with_reducible refine Kd.C_drewN ?_ _) | (with_reducible refine Kd.C_drew ?_))); (case side2 => exact (Kd.R_reads' HO_7.out).2.1); rintro e w' ⟨rfl, ⟨nd, rfl⟩⟩; refine ⟨_, rfl, ?_⟩))
                                go_ret
                                exact ⟨by first | rfl | (simp [errW_none, errW_some] <;> rfl) | (simp [*, errW_none, errW_some] <;> rfl), by repeat (first | (with_reducible first | exact HB.out | apply below_alloc | apply pw_below_drewN | apply below_drew1 | refine below_set ?_ GE101.out | refine below_set ?_ GE113.out) | exact HB.out)⟩
                    · rw [if_neg c58] at H
                      have c58b0 : (t128 == t126) = false := beq_eq_false_iff_ne.mpr c58
                      have c58b1 : (t128 != t126) = true := bne_iff_ne.mpr c58
                      obtain rfl := Option.some.inj H
                      obtain ⟨Ao79, co79, eo79⟩ := Kd.R_slice HO_7.out
                      subst eo79
                      go_wp2_with (first | ((with_reducible refine gate_callee (f := 14) rfl ?_); refine goesL_ (some 64) rfl rfl Try.func14 (by kernel_rfl) rfl #[.slice Ao79 t114.length co79, .int .i64 1] rfl (by (try simp only [List.map_toArray, List.map_cons, List.map_nil]); first | done | rfl | (simp only [List.length_drop, List.length_take]; rfl)) ?_; (with_reducible refine (laws_markInt64S.calls kj36 (fun k_ => some k_ = (.slice Ao79 t114.length co79 : Value).ownBlock) (.slice Ao79 t114.length co79) t114 1 t126 t127 w _ ?side1 ?side2 A53.out).mono ?_); (case side1 => repeat (first | (with_reducible first | exact HB.out | apply below_alloc | apply pw_below_drewN | apply below_drew1 | refine below_set ?_ GE101.out | refine below_set ?_ GE113.out) | exact HB.out)); (case side2 => exact Kd.R_tight rfl HO_7.out); rintro e w80 ⟨rfl, hy0, hb, hkp⟩; refine ⟨_, rfl, ?_⟩; have n0_ := Aside0.mk (Kd.R_mono (ok' := fun k_ => some k_ ≠ (.slice Ao79 t114.length co79 : Value).ownBlock ∧ some k_ ≠ (.slice Ao22 t124.length co22 : Value).ownBlock) (Kd.R_keptB (HO_4.out) hkp (fun k_ hk_ hs_ => (hk_.1) hs_)) (fun k_ hk_ => ⟨hk_.1.1, hk_.1.2⟩)); have n1_ := Aside0.mk (Kd.R_reok rfl hy0 (fun k_ e_ => HO_7.out.1 k_ e_)); have n2_ := Aside0.mk (Kd.R_mono (ok' := fun k_ => some k_ ≠ (v107 : Value).ownBlock ∧ some k_ ≠ (.slice Ao79 t114.length co79 : Value).ownBlock) (Kd.R_keptB (HO_114000.out) hkp (fun k_ hk_ hs_ => (hk_.2) hs_)) (fun k_ hk_ => ⟨hk_.1.1, hk_.1.2⟩)); have n3_ := Aside0.mk (blk_kept (by (with_reducible repeat (first | refine blk_drewN ?_ _ | refine blk_drew ?_ | refine blk_alloc ?_ _)); exact BK101.out) hkp (fun hs_ => (fun e_ => (Kd.R_ne HO_7.out BK101.out (by decide)) e_) hs_)); have n4_ := Aside0.mk (blk_kept (by (with_reducible repeat (first | refine blk_drewN ?_ _ | refine blk_drew ?_ | refine blk_alloc ?_ _)); exact BK113.out) hkp (fun hs_ => (fun e_ => (Kd.R_ne HO_7.out BK113.out (by decide)) e_) hs_)); have n5_ := Aside0.mk (hb); clear HO_4; clear HO_7; clear HO_114000; clear BK101; clear BK113; clear HB; have HO_4 := n0_; have HO_7 := n1_; have HO_114000 := n2_; have BK101 := n3_; have BK113 := n4_; have HB := n5_; clear n0_ n1_ n2_ n3_ n4_ n5_; (try clear hb); (try clear hkp); (try clear hy0)) | ((with_reducible refine gate_callee (f := 15) rfl ?_); refine goesL_ (some 67) rfl rfl Try.func15 (by kernel_rfl) rfl #[.slice Ao79 t127.length co79, .int .i64 1] rfl (by (try simp only [List.map_toArray, List.map_cons, List.map_nil]); first | done | (rw [show t127.length = t114.length from (Kd.R_reads' HO_7.out).1.symm] <;> rfl) | rfl | (simp only [List.length_drop, List.length_take]; rfl)) ?_; (with_reducible refine (laws_heldInt64S.calls kj36 _ _ t127 1 t128 _ ?side1 ?side2 A54.out).mono ?_); (case side1 => repeat (first | exact (Kd.R_reads' HO_7.out).2.2 | (with_reducible refine Kd.C_alloc ?_ _) | (with_reducible refine Kd.C_drewN ?_ _) | (with_reducible refine Kd.C_drew ?_))); (case side2 => rw [show t127.length = t114.length from (Kd.R_reads' HO_7.out).1.symm]; exact (Kd.R_reads' HO_7.out).2.1); rintro e w' ⟨rfl, ⟨nd, rfl⟩⟩; refine ⟨_, rfl, ?_⟩))
                      go_ret
                      exact ⟨by first | rfl | (simp [errW_none, errW_some] <;> rfl) | (simp [*, errW_none, errW_some] <;> rfl), by repeat (first | (with_reducible first | exact HB.out | apply below_alloc | apply pw_below_drewN | apply below_drew1 | refine below_set ?_ GE101.out | refine below_set ?_ GE113.out) | exact HB.out)⟩
          · replace c35 := Bool.eq_false_iff.mpr c35
            subst c35
            have H1 : (some false) = some r := by rw [if_neg (show ¬ (false = true) by decide)] at H; exact H
            clear H
            have H := H1
            clear H1
            obtain rfl := Option.some.inj H
            try go_wp2
            have n0_ := Aside0.mk (Kd.R_drew HO_4.out)
            have n1_ := Aside0.mk (Kd.R_drew HO_7.out)
            have n2_ := Aside0.mk (Kd.R_drew HO_114000.out)
            have n3_ := Aside0.mk (blk_drew BK101.out)
            have n4_ := Aside0.mk (blk_drew BK113.out)
            have n5_ := Aside0.mk (below_drew1 HB.out)
            clear HO_4
            clear HO_7
            clear HO_114000
            clear BK101
            clear BK113
            clear HB
            have HO_4 := n0_
            have HO_7 := n1_
            have HO_114000 := n2_
            have BK101 := n3_
            have BK113 := n4_
            have HB := n5_
            clear n0_ n1_ n2_ n3_ n4_ n5_
            refine start_ (n := 5) (S := fun w' => w'.cell? ⟨gb113, 0, none⟩ = some (.slice Ao22 t110.length co22) ∧ w'.cell? ⟨gb101, 0, none⟩ = some (.slice A0_0 l0_0.length c0_0)) (ds := []) #[false, false, false, false, false] (by kernel_rfl) rfl rfl ⟨(blk_cell BK113.out 0).trans rfl, (blk_cell BK101.out 0).trans rfl⟩ (fun hHeld => ?_)
            generalize wc.drew = w81 at HO_4 HO_7 HO_114000 BK101 BK113 HB hHeld ⊢
            refine take_ (i := 0) (N := some 41) (v := ?_) (a' := ?_) #[true, false, false, false, false] rfl rfl (by kernel_rfl) (fun _ _ _ h => h) (Or.inl ⟨by rfl, ?_⟩) hHeld ?_ ?_
            rotate_left
            · rintro w' ⟨s0, s1⟩
              go_simp
              with_reducible rfl
            rotate_left
            · simp only [Act.put, List.setIfInBounds_toArray, List.set_cons_zero, List.set_cons_succ, i64_w, i32_w]
              rfl
            refine take_ (i := 1) (N := some 42) (v := ?_) (a' := ?_) #[true, true, false, false, false] rfl rfl (by kernel_rfl) (fun _ _ _ h => h) (Or.inl ⟨by rfl, ?_⟩) hHeld ?_ ?_
            rotate_left
            · rintro w' ⟨s0, s1⟩
              go_simp
              with_reducible rfl
            rotate_left
            · simp only [Act.put, List.setIfInBounds_toArray, List.set_cons_zero, List.set_cons_succ, i64_w, i32_w]
              rfl
            refine one_ (i := 2) (N := some 43) #[true, true, true, false, false] rfl rfl (by kernel_rfl) (by decide) (fun K hK => ?_)
            refine goes_ Try.func9 (by kernel_rfl) rfl #[.agg #[.slice A0_0 l0_0.length c0_0]] (by rfl) rfl rfl (by (try simp only [List.map_toArray, List.map_cons, List.map_nil]); first | done | rfl | (simp only [List.length_drop, List.length_take]; rfl)) ?_
            with_reducible refine (laws_toTasks.calls kj10 _ _ l0_0 t119 _ ?side1 ?side2 A33.out).mono ?_
            (case side1 => repeat (first | exact (Kd.C_below HR0_0.out HB.out) | (with_reducible refine Kd.C_alloc ?_ _) | (with_reducible refine Kd.C_drewN ?_ _) | (with_reducible refine Kd.C_drew ?_)))
            (case side2 => exact HC0_0.out)
            rintro e w82 ⟨v120, rfl, ho0, hb⟩
            refine ⟨_, rfl, ?_⟩
            have n0_ := Aside0.mk (Kd.R_elder' (by (with_reducible repeat (first | apply Kd.R_alloc | apply Kd.R_drewN | apply Kd.R_drew)); exact HO_4.out) (Kd.R_base ho0) hb)
            have n1_ := Aside0.mk (Kd.R_elder' (by (with_reducible repeat (first | apply Kd.R_alloc | apply Kd.R_drewN | apply Kd.R_drew)); exact HO_7.out) (Kd.R_base ho0) hb)
            have n2_ := Aside0.mk (Kd.R_elder' (by (with_reducible repeat (first | apply Kd.R_alloc | apply Kd.R_drewN | apply Kd.R_drew)); exact HO_114000.out) (Kd.R_base ho0) hb)
            have n3_ := Aside0.mk (Kd.R_lower (Kd.R_new' (Kd.R_new' (Kd.R_new' ho0 (Kd.R_lt (by (with_reducible repeat (first | apply Kd.R_alloc | apply Kd.R_drewN | apply Kd.R_drew)); exact HO_4.out))) (Kd.R_lt (by (with_reducible repeat (first | apply Kd.R_alloc | apply Kd.R_drewN | apply Kd.R_drew)); exact HO_7.out))) (Kd.R_lt (by (with_reducible repeat (first | apply Kd.R_alloc | apply Kd.R_drewN | apply Kd.R_drew)); exact HO_114000.out))) (below_size (by repeat (first | (with_reducible first | exact HB.out | apply below_alloc | apply pw_below_drewN | apply below_drew1 | refine below_set ?_ GE101.out | refine below_set ?_ GE113.out) | exact HB.out))))
            have n4_ := Aside0.mk (blk_below (g := gb101) (o := .cells #[.slice A0_0 l0_0.length c0_0] 24 (0, 0)) (by (with_reducible repeat (first | refine blk_drewN ?_ _ | refine blk_drew ?_ | refine blk_alloc ?_ _)); exact BK101.out) hb)
            have n5_ := Aside0.mk (blk_below (g := gb113) (o := .cells #[.slice Ao22 t110.length co22] 28 (0, 0)) (by (with_reducible repeat (first | refine blk_drewN ?_ _ | refine blk_drew ?_ | refine blk_alloc ?_ _)); exact BK113.out) hb)
            have n6_ := Aside0.mk (below_step (by repeat (first | (with_reducible first | exact HB.out | apply below_alloc | apply pw_below_drewN | apply below_drew1 | refine below_set ?_ GE101.out | refine below_set ?_ GE113.out) | exact HB.out)) hb)
            clear HO_4
            clear HO_7
            clear HO_114000
            clear BK101
            clear BK113
            clear HB
            have HO_4 := n0_
            have HO_7 := n1_
            have HO_114000 := n2_
            have HO121 := n3_
            have BK101 := n4_
            have BK113 := n5_
            have HB := n6_
            clear n0_ n1_ n2_ n3_ n4_ n5_ n6_
            (try clear hb)
            (try clear hb2)
            (try clear hk)
            (try clear hi)
            (try clear ho0)
            obtain ⟨Ao83, co83, eo83⟩ := Kd.R_slice HO121.out
            (first | subst eo83 | (injection eo83 with f1_ f2_ f3_; have f4_ := f1_.symm; have f5_ := f3_.symm; clear f1_ f2_ f3_; subst f4_; subst f5_))
            refine hK.out _ _ ⟨(blk_cell BK113.out 0).trans rfl, (blk_cell BK101.out 0).trans rfl⟩ (fun hHeld => ?_)
            clear hK K
            refine norm_ (a' := ?_) ?_ ?_
            rotate_left
            · show Act.put _ (some 43) _ = _
              simp only [Act.put, List.setIfInBounds_toArray, List.set_cons_zero, List.set_cons_succ, i64_w, i32_w]
              rfl
            refine one_ (i := 3) (N := some 44) #[true, true, true, true, false] rfl rfl (by kernel_rfl) (by decide) (fun K hK => ?_)
            refine goes_ Try.func12 (by kernel_rfl) rfl #[.agg #[.slice Ao22 t110.length co22], .agg #[.slice Ao83 t119.length co83]] (by rfl) rfl rfl (by (try simp only [List.map_toArray, List.map_cons, List.map_nil]); first | done | rfl | (simp only [List.length_drop, List.length_take]; rfl)) ?_
            with_reducible refine (laws_eqTasks.calls kj10 _ _ t110 _ _ t119 false _ ?side1 ?side2 ?side3 ?side4 A34.out).mono ?_
            (case side1 => repeat (first | exact (Kd.R_reads' HO_114000.out).2.2 | (with_reducible refine Kd.C_alloc ?_ _) | (with_reducible refine Kd.C_drewN ?_ _) | (with_reducible refine Kd.C_drew ?_)))
            (case side2 => exact (Kd.R_reads' HO_114000.out).2.1)
            (case side3 => repeat (first | exact (Kd.R_reads' HO121.out).2.2 | (with_reducible refine Kd.C_alloc ?_ _) | (with_reducible refine Kd.C_drewN ?_ _) | (with_reducible refine Kd.C_drew ?_)))
            (case side4 => exact (Kd.R_reads' HO121.out).2.1)
            rintro e w84 ⟨rfl, hb⟩
            refine ⟨_, rfl, ?_⟩
            have n0_ := Aside0.mk (Kd.R_below (by (with_reducible repeat (first | apply Kd.R_alloc | apply Kd.R_drewN | apply Kd.R_drew)); exact HO_4.out) hb)
            have n1_ := Aside0.mk (Kd.R_below (by (with_reducible repeat (first | apply Kd.R_alloc | apply Kd.R_drewN | apply Kd.R_drew)); exact HO_7.out) hb)
            have n2_ := Aside0.mk (Kd.R_below (by (with_reducible repeat (first | apply Kd.R_alloc | apply Kd.R_drewN | apply Kd.R_drew)); exact HO_114000.out) hb)
            have n3_ := Aside0.mk (Kd.R_below (by (with_reducible repeat (first | apply Kd.R_alloc | apply Kd.R_drewN | apply Kd.R_drew)); exact HO121.out) hb)
            have n4_ := Aside0.mk (blk_below (g := gb101) (o := .cells #[.slice A0_0 l0_0.length c0_0] 24 (0, 0)) (by (with_reducible repeat (first | refine blk_drewN ?_ _ | refine blk_drew ?_ | refine blk_alloc ?_ _)); exact BK101.out) hb)
            have n5_ := Aside0.mk (blk_below (g := gb113) (o := .cells #[.slice Ao22 t110.length co22] 28 (0, 0)) (by (with_reducible repeat (first | refine blk_drewN ?_ _ | refine blk_drew ?_ | refine blk_alloc ?_ _)); exact BK113.out) hb)
            have n6_ := Aside0.mk (below_step (by repeat (first | (with_reducible first | exact HB.out | apply below_alloc | apply pw_below_drewN | apply below_drew1 | refine below_set ?_ GE101.out | refine below_set ?_ GE113.out) | exact HB.out)) hb)
            clear HO_4
            clear HO_7
            clear HO_114000
            clear HO121
            clear BK101
            clear BK113
            clear HB
            have HO_4 := n0_
            have HO_7 := n1_
            have HO_114000 := n2_
            have HO121 := n3_
            have BK101 := n4_
            have BK113 := n5_
            have HB := n6_
            clear n0_ n1_ n2_ n3_ n4_ n5_ n6_
            (try clear hb)
            (try clear hb2)
            (try clear hk)
            (try clear hi)
            refine hK.out _ _ ⟨(blk_cell BK113.out 0).trans rfl, (blk_cell BK101.out 0).trans rfl⟩ (fun hHeld => ?_)
            clear hK K
            refine norm_ (a' := ?_) ?_ ?_
            rotate_left
            · show Act.put _ (some 44) _ = _
              simp only [Act.put, List.setIfInBounds_toArray, List.set_cons_zero, List.set_cons_succ, i64_w, i32_w]
              rfl
            refine pure_ (i := 4) (N := some 45) (v := ?_) (a' := ?_) #[true, true, true, true, true] rfl rfl (by kernel_rfl) (fun _ _ _ h => h) (Or.inl ⟨by rfl, ?_⟩) ?_ ?_
            rotate_left
            · intro w'
              go_simp
              with_reducible rfl
            rotate_left
            · simp only [Act.put, List.setIfInBounds_toArray, List.set_cons_zero, List.set_cons_succ, i64_w, i32_w]
              rfl
            refine done_ (by kernel_rfl) ?_
            try go_wp2
            go_ret
            exact ⟨by first | rfl | (simp [errW_none, errW_some] <;> rfl) | (simp [*, errW_none, errW_some] <;> rfl), by repeat (first | (with_reducible first | exact HB.out | apply below_alloc | apply pw_below_drewN | apply below_drew1 | refine below_set ?_ GE101.out | refine below_set ?_ GE113.out) | exact HB.out)⟩
/-- THE ONE PURE STATEMENT of laws_FnExactTurnsByPowers. -/
def laws_FnExactTurnsByPowers.Pure : Prop := ∀ (l0_0 : List Int), okRow (okInt .i64) l0_0 → ∃ k, laws_FnExactTurnsByPowers.f k l0_0 = some true
theorem laws_FnExactTurnsByPowers.walk (P : laws_FnExactTurnsByPowers.Pure) (A0_0 : Option Addr) (c0_0 : Nat) (l0_0 : List Int) (w : World) (hr0_0 : Kd.C (Kd.int .i64) w A0_0 l0_0.length l0_0) (hc0_0 : l0_0.length ≤ c0_0) (w0_0 : okRow (okInt .i64) l0_0) :
    Calls Try.prog 3 #[.agg #[.slice A0_0 l0_0.length c0_0]] w fun e w' => e = .returned (.bool true) ∧ Below w.heap.size w w' := by
  obtain ⟨k, h⟩ := P l0_0 w0_0
  refine (laws_FnExactTurnsByPowers.calls k A0_0 c0_0 l0_0 true w hr0_0 hc0_0 h).mono ?_
  rintro e w' ⟨rfl, hd⟩
  exact ⟨rfl, hd⟩
end Go.Proofs.Ytjijiaejkcaflaa.P
end
section
namespace Go.Proofs.Ytjijiaejkcaflaa.Pure
open Go.RowKit Go.Proofs.Ytjijiaejkcaflaa.P Go.Proofs.YtjijiaejkcaflaaW.PrintWords Go.Proofs.YtjijiaejkcaflaaW.PrintLast Go.Proofs.YtjijiaejkcaflaaW.PrintMore
set_option linter.unusedVariables false
set_option linter.unusedSimpArgs false
theorem ev_pos {α : Type} {c : Prop} [Decidable c] {A B : Nat → Option α} {r : α} (h : c) (e : Ev A r) : Ev (fun n => if c then A n else B n) r := Ev.congr (fun n => if_pos h) e
theorem ev_neg {α : Type} {c : Prop} [Decidable c] {A B : Nat → Option α} {r : α} (h : ¬ c) (e : Ev B r) : Ev (fun n => if c then A n else B n) r := Ev.congr (fun n => if_neg h) e
theorem ev_now {α : Type} (r : α) : Ev (fun _ => some r) r := Ev.now r
theorem ev_is {α : Type} {g : Option α} {r : α} (h : g = some r) : Ev (fun _ => g) r := by subst h; exact Ev.now r
theorem ev_bind {α β : Type} {g : Nat → Option α} {f : Nat → α → Option β} {a : α} {r : β} (h : Ev g a) (k : Ev (fun n => f n a) r) : Ev (fun n => (g n).bind (f n)) r := Ev.bind h k
theorem ev_fix {α β : Type} {g : Option α} {f : Nat → α → Option β} {a : α} {r : β} (h : g = some a) (k : Ev (fun n => f n a) r) : Ev (fun n => g.bind (f n)) r := by subst h; exact k
theorem ev_rounds {α : Type} {g : Nat → Option α} {r : α} (h : Ev g r) : ∃ k, g k = some r := h.rounds
theorem ev_eq {α : Type} {g : Nat → Option α} {r r' : α} (h : Ev g r) (e : r = r') : Ev g r' := e ▸ h
theorem wrap_id {x : Int} (h1 : -9223372036854775808 ≤ x) (h2 : x ≤ 9223372036854775807) : wrap64 x = x := by unfold wrap64; omega
theorem wrap_succ {n : Nat} (h : n + 1 ≤ 9223372036854775807) : wrap64 ((n : Int) + 1) = ((n + 1 : Nat) : Int) := by rw [wrap_id (by omega) (by omega)]; omega
theorem rd_nat {l : List Int} {n : Nat} (h : n < l.length) : rd l (n : Int) = l[n] := by simp [rd, h]
theorem wrap_nat {n : Nat} (h : n ≤ 9223372036854775807) : wrap64 (n : Int) = n := wrap_id (by omega) (by omega)
end Go.Proofs.Ytjijiaejkcaflaa.Pure
end
section
namespace Go.Proofs.Ytjijiaejkcaflaa.Pure
open Go.RowKit Go.Proofs.Ytjijiaejkcaflaa.P Go.Proofs.YtjijiaejkcaflaaW.PrintWords Go.Proofs.YtjijiaejkcaflaaW.PrintLast Go.Proofs.YtjijiaejkcaflaaW.PrintMore
set_option linter.unusedVariables false
set_option linter.unusedSimpArgs false
theorem toInt64S_l0 (l : List Int) (hl : l.length ≤ 9223372036854775807) : ∀ d n : Nat, n + d = l.length → Ev (fun k => laws_toInt64S.l0 k l (l.take n ++ List.replicate d 0) (n : Int)) l := by
  intro d
  induction d with
  | zero =>
    intro n hn
    refine Ev.step (fun k => by rw [laws_toInt64S.l0]) ?_
    refine ev_neg (by omega) ?_
    rw [List.take_of_length_le (by omega), List.replicate_zero, List.append_nil]
    exact ev_now l
  | succ d ih =>
    intro n hn
    have hlt : n < l.length := by omega
    refine Ev.step (fun k => by rw [laws_toInt64S.l0]) ?_
    refine ev_pos (by omega) (ev_pos (by omega) (ev_pos ?_ ?_))
    · rw [List.length_append, List.length_take, List.length_replicate]; omega
    · rw [wrap_succ (by omega), rd_nat hlt, Int.toNat_natCast]
      have e : (l.take n ++ List.replicate (d + 1) 0).set n l[n] = l.take (n + 1) ++ List.replicate d 0 := by
        rw [List.set_append_right _ _ (by rw [List.length_take]; omega), List.length_take, Nat.min_eq_left (by omega), Nat.sub_self, List.replicate_succ, List.set_cons_zero, List.take_succ_eq_append_getElem hlt, List.append_assoc]
        rfl
      rw [e]
      exact ih (n + 1) (by omega)
/-- toInt64S hands back the list. -/
theorem toInt64S_ev (l : List Int) (hl : l.length ≤ 35184372088832) : Ev (fun k => laws_toInt64S.f k l) l := by
  unfold laws_toInt64S.f
  refine ev_pos (by omega) (ev_pos (by omega) ?_)
  rw [Int.toNat_natCast]
  exact toInt64S_l0 l (by omega) l.length 0 (by omega)
theorem eqInt64S_l0 (l : List Int) (hl : l.length ≤ 9223372036854775807) : ∀ d n : Nat, n + d = l.length → Ev (fun k => laws_eqInt64S.l0 k l l (n : Int)) true := by
  intro d
  induction d with
  | zero =>
    intro n hn
    refine Ev.step (fun k => by rw [laws_eqInt64S.l0]) ?_
    exact ev_neg (by omega) (ev_now true)
  | succ d ih =>
    intro n hn
    refine Ev.step (fun k => by rw [laws_eqInt64S.l0]) ?_
    refine ev_pos (by omega) (ev_pos (by omega) (ev_pos (by omega) (ev_pos rfl ?_)))
    rw [wrap_succ (by omega)]
    exact ih (n + 1) (by omega)
/-- eqInt64S says that a list is itself. -/
theorem eqInt64S_ev (l : List Int) (hl : l.length ≤ 9223372036854775807) : Ev (fun k => laws_eqInt64S.f k l l) true := by
  unfold laws_eqInt64S.f
  exact ev_pos rfl (eqInt64S_l0 l hl l.length 0 (by omega))
end Go.Proofs.Ytjijiaejkcaflaa.Pure
end
section
namespace Go.Proofs.Ytjijiaejkcaflaa.Pure
open Go.RowKit Go.Proofs.Ytjijiaejkcaflaa.P Go.Proofs.YtjijiaejkcaflaaW.PrintWords Go.Proofs.YtjijiaejkcaflaaW.PrintLast Go.Proofs.YtjijiaejkcaflaaW.PrintMore
set_option linter.unusedVariables false
set_option linter.unusedSimpArgs false
/-- the numbers from m on -/
def upFrom (m : Int) : Nat → List Int
  | 0 => []
  | n + 1 => m :: upFrom (m + 1) n
theorem upFrom_length (n : Nat) : ∀ m, (upFrom m n).length = n := by
  induction n with
  | zero => intro m; rfl
  | succ n ih => intro m; simp [upFrom, ih]
theorem upFrom_get (n : Nat) : ∀ (m : Int) (j : Nat), j < n → (upFrom m n)[j]? = some (m + j) := by
  induction n with
  | zero => intro m j h; omega
  | succ n ih =>
    intro m j h
    cases j with
    | zero => simp [upFrom]
    | succ j => simp only [upFrom, List.getElem?_cons_succ]; rw [ih (m + 1) j (by omega)]; congr 1; omega
theorem upFrom_succ (n : Nat) (m : Int) : upFrom m (n + 1) = upFrom m n ++ [m + n] := by
  apply List.ext_getElem?
  intro j
  rcases Nat.lt_or_ge j n with h | h
  · rw [upFrom_get _ _ _ (by omega), List.getElem?_append_left (by rw [upFrom_length]; exact h), upFrom_get _ _ _ h]
  · rw [List.getElem?_append_right (by rw [upFrom_length]; exact h), upFrom_length]
    rcases Nat.eq_or_lt_of_le h with rfl | h
    · rw [upFrom_get _ _ _ (by omega)]; simp
    · rw [List.getElem?_eq_none (by rw [upFrom_length]; omega), List.getElem?_eq_none (by simp; omega)]
theorem markInt64S_l0 (l : List Int) (m : Int) (h0 : 0 ≤ m) (hl : m + l.length ≤ 9223372036854775807) : ∀ d n : Nat, n + d = l.length → Ev (fun k => laws_markInt64S.l0 k (upFrom m n ++ l.drop n) (m + n) (n : Int)) (m + l.length, upFrom m l.length) := by
  intro d
  induction d with
  | zero =>
    intro n hn
    refine Ev.step (fun k => by rw [laws_markInt64S.l0]) ?_
    refine ev_neg (by rw [List.length_append, upFrom_length, List.length_drop]; omega) ?_
    rw [List.drop_of_length_le (by omega), List.append_nil, show n = l.length by omega]
    exact ev_now _
  | succ d ih =>
    intro n hn
    have hlt : n < l.length := by omega
    refine Ev.step (fun k => by rw [laws_markInt64S.l0]) ?_
    refine ev_pos (by rw [List.length_append, upFrom_length, List.length_drop]; omega) (ev_pos (by omega) ?_)
    rw [wrap_succ (by omega), wrap_id (x := m + n + 1) (by omega) (by omega), Int.toNat_natCast]
    have e : (upFrom m n ++ l.drop n).set n (m + n) = upFrom m (n + 1) ++ l.drop (n + 1) := by
      rw [List.set_append_right _ _ (by rw [upFrom_length]; omega), upFrom_length, Nat.sub_self, List.drop_eq_getElem_cons hlt, List.set_cons_zero, upFrom_succ, List.append_assoc]
      rfl
    rw [e, show m + (n : Int) + 1 = m + ((n + 1 : Nat) : Int) by omega]
    exact ih (n + 1) (by omega)
theorem markInt64S_ev (l : List Int) (m : Int) (h0 : 0 ≤ m) (hl : m + l.length ≤ 9223372036854775807) : Ev (fun k => laws_markInt64S.f k l m) (m + l.length, upFrom m l.length) := by
  unfold laws_markInt64S.f
  have h := markInt64S_l0 l m h0 hl l.length 0 (by omega)
  simpa [upFrom] using h
theorem heldInt64S_l0 (m : Int) (h0 : 0 ≤ m) (N : Nat) (hl : m + N ≤ 9223372036854775807) : ∀ d n : Nat, n + d = N → Ev (fun k => laws_heldInt64S.l0 k (upFrom m N) (m + n) (n : Int)) (m + N) := by
  intro d
  induction d with
  | zero =>
    intro n hn
    refine Ev.step (fun k => by rw [laws_heldInt64S.l0]) ?_
    refine ev_neg (by rw [upFrom_length]; omega) ?_
    rw [show n = N by omega]
    exact ev_now _
  | succ d ih =>
    intro n hn
    refine Ev.step (fun k => by rw [laws_heldInt64S.l0]) ?_
    refine ev_pos (by rw [upFrom_length]; omega) (ev_pos (by omega) (ev_pos ?_ ?_))
    · have h := upFrom_get N m n (by omega)
      simp [rd, h]
    · rw [wrap_succ (by omega), wrap_id (x := m + n + 1) (by omega) (by omega), show m + (n : Int) + 1 = m + ((n + 1 : Nat) : Int) by omega]
      exact ih (n + 1) (by omega)
theorem heldInt64S_ev (m : Int) (h0 : 0 ≤ m) (N : Nat) (hl : m + N ≤ 9223372036854775807) : Ev (fun k => laws_heldInt64S.f k (upFrom m N) m) (m + N) := by
  unfold laws_heldInt64S.f
  have h := heldInt64S_l0 m h0 N hl N 0 (by omega)
  simpa using h
end Go.Proofs.Ytjijiaejkcaflaa.Pure
end
section
namespace Go.Proofs.Ytjijiaejkcaflaa.Pure
open Go.RowKit Go.Proofs.Ytjijiaejkcaflaa.P Go.Proofs.YtjijiaejkcaflaaW.PrintWords Go.Proofs.YtjijiaejkcaflaaW.PrintLast Go.Proofs.YtjijiaejkcaflaaW.PrintMore
set_option linter.unusedVariables false
set_option linter.unusedSimpArgs false
theorem szInt64S_f (l : List Int) (a : Int) (hl : l.length ≤ maxLen) (ha : 0 ≤ a ∧ a ≤ 1048576) : ∃ r, laws_szInt64S.f l a = some r ∧ (r < 0 ∨ (0 ≤ r ∧ r ≤ a ∧ (l.length : Int) ≤ a)) := by
  unfold laws_szInt64S.f
  unfold maxLen at hl
  rw [wrap_id (by omega) (by omega)]
  by_cases h : a - (l.length : Int) < 0
  · exact ⟨-1, by rw [if_pos h], .inl (by omega)⟩
  · exact ⟨a - l.length, by rw [if_neg h], .inr (by omega)⟩
end Go.Proofs.Ytjijiaejkcaflaa.Pure
end
section
namespace Go.Proofs.Ytjijiaejkcaflaa.Pure
open Go.RowKit Go.Proofs.Ytjijiaejkcaflaa.P Go.Proofs.YtjijiaejkcaflaaW.PrintWords Go.Proofs.YtjijiaejkcaflaaW.PrintLast Go.Proofs.YtjijiaejkcaflaaW.PrintMore
set_option linter.unusedVariables false
set_option linter.unusedSimpArgs false
theorem szTasks_f (l : List Int) (hl : l.length ≤ maxLen) : ∃ r, laws_szTasks.f l 1048576 = some r ∧ (r < 0 ∨ (0 ≤ r ∧ l.length ≤ 1048576)) := by
  unfold laws_szTasks.f
  obtain ⟨r1, e1, h1⟩ := szInt64S_f l 1048576 hl (by omega)
  rw [e1, Option.bind_some]
  rcases h1 with h1 | h1
  · exact ⟨-1, by rw [if_pos h1], .inl (by omega)⟩
  · exact ⟨r1, by rw [if_neg (by omega)], .inr (by omega)⟩
theorem toTasks_ev (l : List Int) (hl : l.length ≤ 1048576) : Ev (fun k => laws_toTasks.f k l) l := by
  unfold laws_toTasks.f
  exact ev_bind (toInt64S_ev l (by omega)) (ev_now _)
theorem eqTasks_ev (l : List Int) (hl : l.length ≤ 1048576) : Ev (fun k => laws_eqTasks.f k l l) true := by
  unfold laws_eqTasks.f
  exact ev_bind (eqInt64S_ev l (by omega)) (ev_pos rfl (ev_now _))
end Go.Proofs.Ytjijiaejkcaflaa.Pure
end
section
namespace Go.Proofs.Ytjijiaejkcaflaa.P
open Go.RowKit Go.Proofs.YtjijiaejkcaflaaW.PrintWords Go.Proofs.YtjijiaejkcaflaaW.PrintLast Go.Proofs.YtjijiaejkcaflaaW.PrintMore
attribute [local go_sem] max2_int min2_int max_two min_two max_three min_three max_four min_four   -- for this text's walks alone
set_option linter.unusedVariables false
set_option linter.unusedSimpArgs false
def slices_Min_Sint64_int64.l0 : Nat → List Int → Int → Int → Option (Int)
  | 0, _, _, _ => none
  | k + 1, x0, x3, x4 => if x4 < (x0.length : Int) then (if 0 ≤ x4 then (slices_Min_Sint64_int64.l0 k x0 (mn x3 (rd x0 x4)) (wrap64 (x4 + 1))) else (none)) else (some x3)
def slices_Min_Sint64_int64.f (k : Nat) (l0 : List Int) : Option (Int) := if (l0.length : Int) < 1 then (none) else (if 0 < (l0.length : Int) then (slices_Min_Sint64_int64.l0 k l0 (rd l0 0) 1) else (none))
theorem slices_Min_Sint64_int64.mono_l : ∀ k, (∀ y0 y1 y2, LeO (slices_Min_Sint64_int64.l0 k y0 y1 y2) (slices_Min_Sint64_int64.l0 (k + 1) y0 y1 y2))
  | 0 => fun _ _ _ r h => by simp [slices_Min_Sint64_int64.l0] at h
  | k + 1 => by
    have ih0 := slices_Min_Sint64_int64.mono_l k
    · intro y0 y1 y2
      unfold slices_Min_Sint64_int64.l0
      repeat' first
      | (with_reducible exact ih0 _ _ _)
      | (with_reducible exact LeO.refl _)
      | (with_reducible exact LeO.none _)
      | (with_reducible refine LeO.ite ?_ ?_)
      | (with_reducible refine LeO.bind ?_ (fun _ => ?_))
      | exact ih0 _ _ _
      | exact LeO.none _
      | refine LeO.ite ?_ ?_
      | refine LeO.bind ?_ (fun _ => ?_)
theorem slices_Min_Sint64_int64.mono : ∀ a0 k, LeO (slices_Min_Sint64_int64.f k a0) (slices_Min_Sint64_int64.f (k + 1) a0) := by
  intro a0 k
  have ih0 := slices_Min_Sint64_int64.mono_l k
  unfold slices_Min_Sint64_int64.f
  repeat' first
      | (with_reducible exact ih0 _ _ _)
      | (with_reducible exact LeO.refl _)
      | (with_reducible exact LeO.none _)
      | (with_reducible refine LeO.ite ?_ ?_)
      | (with_reducible refine LeO.bind ?_ (fun _ => ?_))
      | exact ih0 _ _ _
      | exact LeO.none _
      | refine LeO.ite ?_ ?_
      | refine LeO.bind ?_ (fun _ => ?_)
end Go.Proofs.Ytjijiaejkcaflaa.P
end
section
namespace Go.Proofs.Ytjijiaejkcaflaa.P
open Go.RowKit Go.Proofs.YtjijiaejkcaflaaW.PrintWords Go.Proofs.YtjijiaejkcaflaaW.PrintLast Go.Proofs.YtjijiaejkcaflaaW.PrintMore
attribute [local go_sem] max2_int min2_int max_two min_two max_three min_three max_four min_four   -- for this text's walks alone
set_option linter.unusedVariables false
set_option linter.unusedSimpArgs false
def impl_TurnsByOne.l0 : Nat → Int → List Int → Option (List Int × Int × Int)
  | 0, _, _ => none
  | k + 1, x6, x102000 => (slices_Min_Sint64_int64.f k x102000).bind fun t103 => (if x6 ≤ t103 then ((impl_Tasks_lessened.f k x102000 x6).bind fun t104 => ((impl_Tasks_isThin.f k t104).bind fun t108 => (if t108 = true then ((impl_Tasks_harmonic.f k t104).bind fun t109 => (some (t109, x6, 0))) else (impl_TurnsByOne.l0 k (wrap64 (x6 + 1)) x102000)))) else (some (([] : List Int), 0, 4)))
def impl_TurnsByOne.f (k : Nat) (l0_0 : List Int) : Option (List Int × Int × Int) := (impl_tasksCode.f l0_0 true).bind fun t102 => (if t102 = 0 then (impl_TurnsByOne.l0 k 1 l0_0) else (some (([] : List Int), 0, t102)))
theorem impl_TurnsByOne.mono_l : ∀ k, (∀ y0 y1, LeO (impl_TurnsByOne.l0 k y0 y1) (impl_TurnsByOne.l0 (k + 1) y0 y1))
  | 0 => fun _ _ r h => by simp [impl_TurnsByOne.l0] at h
  | k + 1 => by
    have ih0 := impl_TurnsByOne.mono_l k
    · intro y0 y1
      unfold impl_TurnsByOne.l0
      repeat' first
      | (with_reducible exact ih0 _ _)
      | (with_reducible exact impl_Tasks_harmonic.mono _ _)
      | (with_reducible exact impl_Tasks_isThin.mono _ _)
      | (with_reducible exact impl_Tasks_lessened.mono _ _ _)
      | (with_reducible exact slices_Min_Sint64_int64.mono _ _)
      | (with_reducible exact LeO.refl _)
      | (with_reducible exact LeO.none _)
      | (with_reducible refine LeO.ite ?_ ?_)
      | (with_reducible refine LeO.bind ?_ (fun _ => ?_))
      | exact ih0 _ _
      | exact impl_Tasks_harmonic.mono _ _
      | exact impl_Tasks_isThin.mono _ _
      | exact impl_Tasks_lessened.mono _ _ _
      | exact slices_Min_Sint64_int64.mono _ _
      | exact LeO.none _
      | refine LeO.ite ?_ ?_
      | refine LeO.bind ?_ (fun _ => ?_)
theorem impl_TurnsByOne.mono : ∀ a0 k, LeO (impl_TurnsByOne.f k a0) (impl_TurnsByOne.f (k + 1) a0) := by
  intro a0 k
  have ih0 := impl_TurnsByOne.mono_l k
  unfold impl_TurnsByOne.f
  repeat' first
      | (with_reducible exact ih0 _ _)
      | (with_reducible exact impl_Tasks_harmonic.mono _ _)
      | (with_reducible exact impl_Tasks_isThin.mono _ _)
      | (with_reducible exact impl_Tasks_lessened.mono _ _ _)
      | (with_reducible exact slices_Min_Sint64_int64.mono _ _)
      | (with_reducible exact LeO.refl _)
      | (with_reducible exact LeO.none _)
      | (with_reducible refine LeO.ite ?_ ?_)
      | (with_reducible refine LeO.bind ?_ (fun _ => ?_))
      | exact ih0 _ _
      | exact impl_Tasks_harmonic.mono _ _
      | exact impl_Tasks_isThin.mono _ _
      | exact impl_Tasks_lessened.mono _ _ _
      | exact slices_Min_Sint64_int64.mono _ _
      | exact LeO.none _
      | refine LeO.ite ?_ ?_
      | refine LeO.bind ?_ (fun _ => ?_)
end Go.Proofs.Ytjijiaejkcaflaa.P
end
section
namespace Go.Proofs.Ytjijiaejkcaflaa.P
open Go.RowKit Go.Proofs.YtjijiaejkcaflaaW.PrintWords Go.Proofs.YtjijiaejkcaflaaW.PrintLast Go.Proofs.YtjijiaejkcaflaaW.PrintMore
attribute [local go_sem] max2_int min2_int max_two min_two max_three min_three max_four min_four   -- for this text's walks alone
set_option linter.unusedVariables false
set_option linter.unusedSimpArgs false
def spec_TurnsByOne.l0 : Nat → Int → List Int → Option (List Int × Int × Int)
  | 0, _, _ => none
  | k + 1, x5, x102000 => (spec_l03Lessened.f k x102000 x5).bind fun bt103 => (if bt103.2 = true then ((spec_l03Turns.f k bt103.1).bind fun bt108 => (if bt108.2 = true then (some (bt108.1, x5, 0)) else (spec_TurnsByOne.l0 k (wrap64 (x5 + 1)) x102000))) else (some (([] : List Int), 0, 4)))
def spec_TurnsByOne.f (k : Nat) (l0_0 : List Int) : Option (List Int × Int × Int) := (spec_l01Is.f k l0_0).bind fun t102 => (if t102 = true then (spec_TurnsByOne.l0 k 1 l0_0) else (some (([] : List Int), 0, 1)))
theorem spec_TurnsByOne.mono_l : ∀ k, (∀ y0 y1, LeO (spec_TurnsByOne.l0 k y0 y1) (spec_TurnsByOne.l0 (k + 1) y0 y1))
  | 0 => fun _ _ r h => by simp [spec_TurnsByOne.l0] at h
  | k + 1 => by
    have ih0 := spec_TurnsByOne.mono_l k
    · intro y0 y1
      unfold spec_TurnsByOne.l0
      repeat' first
      | (with_reducible exact ih0 _ _)
      | (with_reducible exact spec_l01Is.mono _ _)
      | (with_reducible exact spec_l03Lessened.mono _ _ _)
      | (with_reducible exact spec_l03Turns.mono _ _)
      | (with_reducible exact LeO.refl _)
      | (with_reducible exact LeO.none _)
      | (with_reducible refine LeO.ite ?_ ?_)
      | (with_reducible refine LeO.bind ?_ (fun _ => ?_))
      | exact ih0 _ _
      | exact spec_l01Is.mono _ _
      | exact spec_l03Lessened.mono _ _ _
      | exact spec_l03Turns.mono _ _
      | exact LeO.none _
      | refine LeO.ite ?_ ?_
      | refine LeO.bind ?_ (fun _ => ?_)
theorem spec_TurnsByOne.mono : ∀ a0 k, LeO (spec_TurnsByOne.f k a0) (spec_TurnsByOne.f (k + 1) a0) := by
  intro a0 k
  have ih0 := spec_TurnsByOne.mono_l k
  unfold spec_TurnsByOne.f
  repeat' first
      | (with_reducible exact ih0 _ _)
      | (with_reducible exact spec_l01Is.mono _ _)
      | (with_reducible exact spec_l03Lessened.mono _ _ _)
      | (with_reducible exact spec_l03Turns.mono _ _)
      | (with_reducible exact LeO.refl _)
      | (with_reducible exact LeO.none _)
      | (with_reducible refine LeO.ite ?_ ?_)
      | (with_reducible refine LeO.bind ?_ (fun _ => ?_))
      | exact ih0 _ _
      | exact spec_l01Is.mono _ _
      | exact spec_l03Lessened.mono _ _ _
      | exact spec_l03Turns.mono _ _
      | exact LeO.none _
      | refine LeO.ite ?_ ?_
      | refine LeO.bind ?_ (fun _ => ?_)
end Go.Proofs.Ytjijiaejkcaflaa.P
end
section
namespace Go.Proofs.Ytjijiaejkcaflaa.Pure
open Go.RowKit Go.Proofs.Ytjijiaejkcaflaa.P Go.Proofs.YtjijiaejkcaflaaW.PrintWords Go.Proofs.YtjijiaejkcaflaaW.PrintLast Go.Proofs.YtjijiaejkcaflaaW.PrintMore
set_option linter.unusedVariables false
set_option linter.unusedSimpArgs false
/-- the greatest of a list, and 0 -/
def great (l : List Int) : Int := l.foldl mx 0
theorem le_mx (a b : Int) : a ≤ mx a b ∧ b ≤ mx a b := by unfold mx; split <;> omega
theorem le_foldl_mx (l : List Int) : ∀ a, a ≤ l.foldl mx a ∧ ∀ x ∈ l, x ≤ l.foldl mx a := by
  induction l with
  | nil => intro a; simp
  | cons y l ih =>
    intro a
    have h := ih (mx a y)
    have h2 := le_mx a y
    simp only [List.foldl_cons]
    refine ⟨by omega, ?_⟩
    intro x hx
    rcases List.mem_cons.1 hx with rfl | hx
    · omega
    · exact h.2 x hx
theorem great_pos {l : List Int} {x : Int} (h : x ∈ l) : x ≤ great l := (le_foldl_mx l 0).2 x h
end Go.Proofs.Ytjijiaejkcaflaa.Pure
end
section
namespace Go.Proofs.Ytjijiaejkcaflaa.P
open Go.RowKit Go.Proofs.YtjijiaejkcaflaaW.PrintWords Go.Proofs.YtjijiaejkcaflaaW.PrintLast Go.Proofs.YtjijiaejkcaflaaW.PrintMore
attribute [local go_sem] max2_int min2_int max_two min_two max_three min_three max_four min_four   -- for this text's walks alone
set_option linter.unusedVariables false
set_option linter.unusedSimpArgs false
def impl_areTurns.f (l0 : List Int) (a1 : Int) : Option Bool := some (decide (1 ≤ (l0.length : Int) ∧ (l0.length : Int) ≤ 120) && l0.all fun i => decide (-1 ≤ i ∧ i ≤ wrap64 (a1 - 1)))
end Go.Proofs.Ytjijiaejkcaflaa.P
end
section
namespace Go.Proofs.Ytjijiaejkcaflaa.P
open Go.RowKit Go.Proofs.YtjijiaejkcaflaaW.PrintWords Go.Proofs.YtjijiaejkcaflaaW.PrintLast Go.Proofs.YtjijiaejkcaflaaW.PrintMore
attribute [local go_sem] max2_int min2_int max_two min_two max_three min_three max_four min_four   -- for this text's walks alone
set_option linter.unusedVariables false
set_option linter.unusedSimpArgs false
def spec_l01Turns.l0 : Nat → List Int → Int → Int → Option (Bool)
  | 0, _, _, _ => none
  | k + 1, x0, x1, x5 => if x5 < (x0.length : Int) then (if 0 ≤ x5 then ((spec_l01In.f (rd x0 x5) (-1) (wrap64 (x1 - 1))).bind fun t102 => (if t102 = true then (spec_l01Turns.l0 k x0 x1 (wrap64 (x5 + 1))) else (some false))) else (none)) else ((spec_l01In.f (x0.length : Int) 1 120).bind fun t103 => (some t103))
def spec_l01Turns.f (k : Nat) (l0 : List Int) (a1 : Int) : Option (Bool) := spec_l01Turns.l0 k l0 a1 0
theorem spec_l01Turns.mono_l : ∀ k, (∀ y0 y1 y2, LeO (spec_l01Turns.l0 k y0 y1 y2) (spec_l01Turns.l0 (k + 1) y0 y1 y2))
  | 0 => fun _ _ _ r h => by simp [spec_l01Turns.l0] at h
  | k + 1 => by
    have ih0 := spec_l01Turns.mono_l k
    · intro y0 y1 y2
      unfold spec_l01Turns.l0
      repeat' first
      | (with_reducible exact ih0 _ _ _)
      | (with_reducible exact LeO.refl _)
      | (with_reducible exact LeO.none _)
      | (with_reducible refine LeO.ite ?_ ?_)
      | (with_reducible refine LeO.bind ?_ (fun _ => ?_))
      | exact ih0 _ _ _
      | exact LeO.none _
      | refine LeO.ite ?_ ?_
      | refine LeO.bind ?_ (fun _ => ?_)
theorem spec_l01Turns.mono : ∀ a0 a1 k, LeO (spec_l01Turns.f k a0 a1) (spec_l01Turns.f (k + 1) a0 a1) := by
  intro a0 a1 k
  have ih0 := spec_l01Turns.mono_l k
  unfold spec_l01Turns.f
  repeat' first
      | (with_reducible exact ih0 _ _ _)
      | (with_reducible exact LeO.refl _)
      | (with_reducible exact LeO.none _)
      | (with_reducible refine LeO.ite ?_ ?_)
      | (with_reducible refine LeO.bind ?_ (fun _ => ?_))
      | exact ih0 _ _ _
      | exact LeO.none _
      | refine LeO.ite ?_ ?_
      | refine LeO.bind ?_ (fun _ => ?_)
end Go.Proofs.Ytjijiaejkcaflaa.P
end
section
namespace Go.Proofs.Ytjijiaejkcaflaa.Pure
open Go.RowKit Go.Proofs.Ytjijiaejkcaflaa.P Go.Proofs.YtjijiaejkcaflaaW.PrintWords Go.Proofs.YtjijiaejkcaflaaW.PrintLast Go.Proofs.YtjijiaejkcaflaaW.PrintMore
set_option linter.unusedVariables false
set_option linter.unusedSimpArgs false
theorem l01In_f (n lo hi : Int) : spec_l01In.f n lo hi = some (decide (lo ≤ n ∧ n ≤ hi)) := by
  unfold spec_l01In.f
  by_cases h : n ≥ lo
  · rw [if_pos h]; simp [show lo ≤ n from h]
  · rw [if_neg h]; simp [show ¬ lo ≤ n from h]
theorem all_take_succ {α : Type} (p : α → Bool) (l : List α) (n : Nat) (h : n < l.length) : (l.take (n + 1)).all p = ((l.take n).all p && p l[n]) := by
  rw [List.take_succ_eq_append_getElem h, List.all_append]; simp
theorem all_false_at {α : Type} (p : α → Bool) (l : List α) (n : Nat) (h : n < l.length) (hp : p l[n] = false) : l.all p = false := by
  rw [Bool.eq_false_iff]
  intro ha
  rw [List.all_eq_true] at ha
  rw [ha _ (List.getElem_mem h)] at hp
  cases hp
end Go.Proofs.Ytjijiaejkcaflaa.Pure
end
section
namespace Go.Proofs.Ytjijiaejkcaflaa.Pure
open Go.RowKit Go.Proofs.Ytjijiaejkcaflaa.P Go.Proofs.YtjijiaejkcaflaaW.PrintWords Go.Proofs.YtjijiaejkcaflaaW.PrintLast Go.Proofs.YtjijiaejkcaflaaW.PrintMore
set_option linter.unusedVariables false
set_option linter.unusedSimpArgs false
theorem great_le {l : List Int} {b : Int} (hb : 0 ≤ b) (h : ∀ x ∈ l, x ≤ b) : great l ≤ b := by
  have : ∀ (m : List Int) (a : Int), a ≤ b → (∀ x ∈ m, x ≤ b) → m.foldl mx a ≤ b := by
    intro m
    induction m with
    | nil => intro a ha _; exact ha
    | cons y m ih =>
      intro a ha hm
      refine ih _ ?_ fun x hx => hm x (List.mem_cons_of_mem _ hx)
      have := hm y List.mem_cons_self
      unfold mx; split <;> omega
  exact this l 0 hb h
theorem Max_l0 (l : List Int) (hl : l.length ≤ 1048576) (a : Int) : ∀ d n : Nat, n + d = l.length →
    Ev (fun k => slices_Max_Sint64_int64.l0 k l ((l.take n).foldl mx a) (n : Int)) (l.foldl mx a) := by
  intro d
  induction d with
  | zero =>
    intro n hn
    rw [List.take_of_length_le (by omega)]
    exact Ev.step (fun k => by rw [slices_Max_Sint64_int64.l0]) (ev_neg (by omega) (ev_now _))
  | succ d ih =>
    intro n hn
    have hlt : n < l.length := by omega
    refine Ev.step (fun k => by rw [slices_Max_Sint64_int64.l0]) (ev_pos (by omega) (ev_pos (by omega) ?_))
    rw [rd_nat hlt, wrap_succ (by omega)]
    have ih := ih (n + 1) (by omega)
    rw [List.take_succ_eq_append_getElem hlt, List.foldl_append] at ih
    exact ih
theorem mx_self (a : Int) : mx a a = a := by unfold mx; split <;> rfl
theorem Max_ev (l : List Int) (hl : l.length ≤ 1048576) (h0 : 1 ≤ l.length) (hp : ∀ x ∈ l, 0 ≤ x) : Ev (fun k => slices_Max_Sint64_int64.f k l) (great l) := by
  unfold slices_Max_Sint64_int64.f
  refine ev_neg (by omega) (ev_pos (by omega) ?_)
  cases l with
  | nil => simp at h0
  | cons y l =>
    have hy := hp y List.mem_cons_self
    have h1 := Max_l0 (y :: l) hl y l.length 1 (by simp only [List.length_cons]; omega)
    have e0 : great (y :: l) = (y :: l).foldl mx y := by
      have : mx 0 y = y := by unfold mx; split <;> omega
      simp only [great, List.foldl_cons, this, mx_self]
    have e1 : ((y :: l).take 1).foldl mx y = y := by simp [mx_self]
    rw [e1, ← e0] at h1
    exact h1
end Go.Proofs.Ytjijiaejkcaflaa.Pure
end
section
namespace Go.Proofs.Ytjijiaejkcaflaa.Pure
open Go.RowKit Go.Proofs.Ytjijiaejkcaflaa.P Go.Proofs.YtjijiaejkcaflaaW.PrintWords Go.Proofs.YtjijiaejkcaflaaW.PrintLast Go.Proofs.YtjijiaejkcaflaaW.PrintMore
set_option linter.unusedVariables false
set_option linter.unusedSimpArgs false
/-- the digit of the road between two places -/
def roadOf (i j : Int) : Int := 2 ^ ((max i j) * ((max i j) - 1) / 2 + min i j).toNat
/-- Two places are near: the same, or joined. -/
def nearB (b i j : Int) : Bool := if i = j then true else Go.bits .and .i64 b (roadOf i j) != 0
end Go.Proofs.Ytjijiaejkcaflaa.Pure
end
section
namespace Go.Proofs.Ytjijiaejkcaflaa.Pure
open Go.RowKit Go.Proofs.Ytjijiaejkcaflaa.P Go.Proofs.YtjijiaejkcaflaaW.PrintWords Go.Proofs.YtjijiaejkcaflaaW.PrintLast Go.Proofs.YtjijiaejkcaflaaW.PrintMore
set_option linter.unusedVariables false
set_option linter.unusedSimpArgs false
theorem rd_set {l : List Int} {b i : Nat} {x : Int} (hb : b < l.length) : rd (l.set b x) (i : Nat) = if i = b then x else rd l (i : Nat) := by
  simp only [rd, Int.toNat_natCast, List.getD_eq_getElem?_getD, List.getElem?_set]
  by_cases h : b = i
  · subst h; simp [hb]
  · rw [if_neg h, if_neg (fun e => h e.symm)]
end Go.Proofs.Ytjijiaejkcaflaa.Pure
end
section
namespace Go.Proofs.Ytjijiaejkcaflaa.Pure
open Go.RowKit Go.Proofs.Ytjijiaejkcaflaa.P Go.Proofs.YtjijiaejkcaflaaW.PrintWords Go.Proofs.YtjijiaejkcaflaaW.PrintLast Go.Proofs.YtjijiaejkcaflaaW.PrintMore
set_option linter.unusedVariables false
set_option linter.unusedSimpArgs false
def neg : List Int → Nat
  | [] => 0
  | y :: l => (if y < 0 then 1 else 0) + neg l
theorem neg_set (v : Int) (hv : 0 ≤ v) : ∀ (l : List Int) (n : Nat) (h : n < l.length), l[n] < 0 → neg (l.set n v) + 1 = neg l := by
  intro l
  induction l with
  | nil => intro n h; simp at h
  | cons y l ih =>
    intro n h hn
    cases n with
    | zero =>
      simp only [List.getElem_cons_zero] at hn
      simp only [List.set_cons_zero, neg]
      rw [if_neg (by omega), if_pos hn]
      omega
    | succ n =>
      simp only [List.getElem_cons_succ] at hn
      simp only [List.set_cons_succ, neg]
      have := ih n (by simpa using h) hn
      omega
def stepJ (b h : Int) (j : Nat) (s : List Int × List Int) : List Int × List Int := if rd s.1 (j : Int) < 0 ∧ nearB b h (j : Int) = true then (s.1.set j (rd s.1 h + 1), s.2 ++ [(j : Int)]) else s
def inJ (b h : Int) : Nat → Nat → List Int × List Int → List Int × List Int
  | 0, _, s => s
  | d + 1, j, s => inJ b h d (j + 1) (stepJ b h j s)
structure Bfs (a : Nat) (s : List Int × List Int) : Prop where
  len : s.1.length = a
  mem : ∀ x ∈ s.2, 0 ≤ x ∧ x < (a : Int) ∧ 0 ≤ rd s.1 x
  hi : ∀ i : Nat, i < a → rd s.1 (i : Int) ≤ (s.2.length : Int)
  num : s.2.length + neg s.1 ≤ a
theorem Bfs.step {a : Nat} {b h : Int} {j : Nat} {s : List Int × List Int} (B : Bfs a s) (hj : j < a) (hh : 0 ≤ h ∧ h < (a : Int) ∧ 0 ≤ rd s.1 h) : Bfs a (stepJ b h j s) := by
  unfold stepJ
  split
  · next c =>
    have hl := B.len
    refine ⟨by rw [List.length_set]; exact hl, fun x hx => ?_, fun i hi => ?_, ?_⟩
    · rcases List.mem_append.1 hx with hx | hx
      · obtain ⟨h1, h2, h3⟩ := B.mem x hx
        obtain ⟨n, rfl⟩ : ∃ n : Nat, x = n := ⟨x.toNat, by omega⟩
        refine ⟨h1, h2, ?_⟩
        show 0 ≤ rd (s.1.set j _) (n : Int)
        rw [rd_set (by omega)]
        split <;> omega
      · rw [List.mem_singleton.1 hx]
        refine ⟨by omega, by omega, ?_⟩
        show 0 ≤ rd (s.1.set j _) (j : Int)
        rw [rd_set (by omega), if_pos rfl]
        omega
    · have h1 := B.hi i hi
      have h2 := B.hi h.toNat (by omega)
      rw [show ((h.toNat : Nat) : Int) = h by omega] at h2
      show rd (s.1.set j _) (i : Int) ≤ ((s.2 ++ [(j : Int)]).length : Int)
      rw [rd_set (by omega), List.length_append, List.length_singleton]
      split <;> omega
    · have c1 := c.1
      rw [rd_nat (by omega)] at c1
      have := neg_set (rd s.1 h + 1) (by omega) s.1 j (by omega) c1
      have := B.num
      show (s.2 ++ [(j : Int)]).length + neg (s.1.set j (rd s.1 h + 1)) ≤ a
      rw [List.length_append, List.length_singleton]
      omega
  · exact B
theorem stepJ_head {a : Nat} {b h : Int} {j : Nat} {s : List Int × List Int} (B : Bfs a s) (hj : j < a) (hh : 0 ≤ h ∧ h < (a : Int) ∧ 0 ≤ rd s.1 h) : 0 ≤ rd (stepJ b h j s).1 h := by
  unfold stepJ
  split
  · have hl := B.len
    obtain ⟨n, rfl⟩ : ∃ n : Nat, h = n := ⟨h.toNat, by omega⟩
    show 0 ≤ rd (s.1.set j _) (n : Int)
    rw [rd_set (by omega)]
    split <;> omega
  · exact hh.2.2
theorem Bfs.inner {a : Nat} {b h : Int} : ∀ d j : Nat, j + d = a → ∀ s : List Int × List Int, Bfs a s → (0 ≤ h ∧ h < (a : Int) ∧ 0 ≤ rd s.1 h) → Bfs a (inJ b h d j s) := by
  intro d
  induction d with
  | zero => intro j _ s B _; exact B
  | succ d ih => intro j hj s B hh; exact ih (j + 1) (by omega) _ (B.step (by omega) hh) ⟨hh.1, hh.2.1, stepJ_head B (by omega) hh⟩
end Go.Proofs.Ytjijiaejkcaflaa.Pure
end
section
namespace Go.Proofs.Ytjijiaejkcaflaa.Pure
open Go.RowKit Go.Proofs.Ytjijiaejkcaflaa.P Go.Proofs.YtjijiaejkcaflaaW.PrintWords Go.Proofs.YtjijiaejkcaflaaW.PrintLast Go.Proofs.YtjijiaejkcaflaaW.PrintMore
set_option linter.unusedVariables false
set_option linter.unusedSimpArgs false
def insB (G : List Int) (x : Int) : List Int → List Int → List Int
  | [], B => x :: B
  | y :: ra, B => if rd G x < rd G y then insB G x ra (y :: B) else (y :: ra).reverse ++ x :: B
def ordF (G : List Int) : Nat → List Int
  | 0 => []
  | n + 1 => insB G (n : Int) (ordF G n).reverse []
theorem insB_length (G : List Int) (x : Int) : ∀ ra B, (insB G x ra B).length = ra.length + B.length + 1 := by
  intro ra
  induction ra with
  | nil => intro B; simp [insB]
  | cons y ra ih =>
    intro B
    rw [insB]
    split
    · rw [ih, List.length_cons, List.length_cons]; omega
    · simp only [List.length_append, List.length_reverse, List.length_cons]; omega
theorem ordF_length (G : List Int) : ∀ n, (ordF G n).length = n := by
  intro n
  induction n with
  | zero => rfl
  | succ n ih => rw [ordF, insB_length, List.length_reverse, ih]; simp
theorem insB_mem (G : List Int) (x z : Int) : ∀ ra B, z ∈ insB G x ra B ↔ z = x ∨ z ∈ ra ∨ z ∈ B := by
  intro ra
  induction ra with
  | nil => intro B; simp [insB]
  | cons y ra ih =>
    intro B
    rw [insB]
    split
    · rw [ih]
      simp only [List.mem_cons]
      constructor
      · rintro (h | h | h | h)
        · exact .inl h
        · exact .inr (.inl (.inr h))
        · exact .inr (.inl (.inl h))
        · exact .inr (.inr h)
      · rintro (h | (h | h) | h)
        · exact .inl h
        · exact .inr (.inr (.inl h))
        · exact .inr (.inl h)
        · exact .inr (.inr (.inr h))
    · simp only [List.mem_append, List.mem_reverse, List.mem_cons]
      constructor
      · rintro ((h | h) | h | h)
        · exact .inr (.inl (.inl h))
        · exact .inr (.inl (.inr h))
        · exact .inl h
        · exact .inr (.inr h)
      · rintro (h | (h | h) | h)
        · exact .inr (.inl h)
        · exact .inl (.inl h)
        · exact .inl (.inr h)
        · exact .inr (.inr h)
theorem ordF_mem (G : List Int) : ∀ n (z : Int), z ∈ ordF G n ↔ 0 ≤ z ∧ z < (n : Int) := by
  intro n
  induction n with
  | zero => intro z; simp [ordF] <;> omega
  | succ n ih =>
    intro z
    rw [ordF, insB_mem, List.mem_reverse, ih]
    simp only [List.not_mem_nil, or_false]
    omega
/-- sums over tasks -/
def sumF (f : Int → Int) : List Int → Int
  | [] => 0
  | y :: l => f y + sumF f l
theorem sumF_append (f : Int → Int) (a b : List Int) : sumF f (a ++ b) = sumF f a + sumF f b := by
  induction a with
  | nil => simp [sumF]
  | cons y a ih => simp only [List.cons_append, sumF, ih]; omega
theorem sumF_reverse (f : Int → Int) (a : List Int) : sumF f a.reverse = sumF f a := by
  induction a with
  | nil => rfl
  | cons y a ih => rw [List.reverse_cons, sumF_append, ih]; simp only [sumF]; omega
theorem insB_sum (f : Int → Int) (G : List Int) (x : Int) : ∀ ra B, sumF f (insB G x ra B) = f x + sumF f ra + sumF f B := by
  intro ra
  induction ra with
  | nil => intro B; simp [insB, sumF]
  | cons y ra ih =>
    intro B
    rw [insB]
    split
    · rw [ih]; simp only [sumF]; omega
    · rw [sumF_append, sumF_reverse]; simp only [sumF]; omega
theorem ordF_sum (f : Int → Int) (G : List Int) : ∀ n, sumF f (ordF G n) = sumF (fun i => f i) ((List.range' 0 n).map fun (i : Nat) => (i : Int)) := by
  intro n
  induction n with
  | zero => rfl
  | succ n ih =>
    rw [ordF, insB_sum, sumF_reverse, ih, List.range'_1_concat, List.map_append, sumF_append]
    simp [sumF]
    try omega
/-- sorted by gaps -/
theorem insB_sorted (G : List Int) (x : Int) : ∀ ra B, (ra.reverse ++ B).Pairwise (fun a b => rd G a ≤ rd G b) → (∀ z ∈ B, rd G x ≤ rd G z) → (insB G x ra B).Pairwise (fun a b => rd G a ≤ rd G b) := by
  intro ra
  induction ra with
  | nil =>
    intro B h hB
    rw [insB, List.pairwise_cons]
    exact ⟨hB, by simpa using h⟩
  | cons y ra ih =>
    intro B h hB
    rw [insB]
    split
    · next c =>
      refine ih (y :: B) (by simpa using h) fun z hz => ?_
      rcases List.mem_cons.1 hz with rfl | hz
      · omega
      · exact hB z hz
    · next c =>
      rw [List.pairwise_append] at h ⊢
      refine ⟨h.1, ?_, ?_⟩
      · rw [List.pairwise_cons]
        exact ⟨hB, h.2.1⟩
      · intro a ha b hb
        rcases List.mem_cons.1 hb with rfl | hb
        · rw [List.mem_reverse, List.mem_cons] at ha
          rcases ha with rfl | ha
          · omega
          · have h1 := h.1
            rw [List.reverse_cons, List.pairwise_append] at h1
            have := h1.2.2 a (List.mem_reverse.2 ha) y (by simp)
            omega
        · exact h.2.2 a ha b hb
theorem ordF_sorted (G : List Int) : ∀ n, (ordF G n).Pairwise (fun a b => rd G a ≤ rd G b) := by
  intro n
  induction n with
  | zero => exact List.Pairwise.nil
  | succ n ih => rw [ordF]; exact insB_sorted G _ _ _ (by simpa using ih) (by simp)
theorem rd_mid (A B : List Int) (x : Int) : rd (A ++ x :: B) (A.length : Int) = x := by
  rw [rd_nat (by simp)]
  simp
theorem set_mid1 (A B : List Int) (x y : Int) : (A ++ x :: B).set A.length y = A ++ y :: B := by
  rw [List.set_append_right _ _ (Nat.le_refl _), Nat.sub_self, List.set_cons_zero]
theorem upTo_split (n m : Nat) (h : n < m) : (List.range' n (m - n)).map (fun (i : Nat) => (i : Int)) = (n : Int) :: (List.range' (n + 1) (m - (n + 1))).map (fun (i : Nat) => (i : Int)) := by
  obtain ⟨d, hd⟩ : ∃ d, m - n = d + 1 := ⟨m - n - 1, by omega⟩
  rw [hd, List.range'_succ, show m - (n + 1) = d by omega]
  rfl
theorem impl_ins_l1 (G : List Int) (hG : ∀ x ∈ G, 1 ≤ x ∧ x ≤ 40) (m i : Nat) (hm : m ≤ G.length) (hm8 : m ≤ 100) (hi : i < m) (x : Int) (hx : 0 ≤ x ∧ x < (G.length : Int)) (rest : List Int) (R : List Int) : ∀ ra B : List Int, ra.length + B.length = i → rest.length + i + 1 = m → (∀ z ∈ ra, 0 ≤ z ∧ z < (G.length : Int)) →
    Ev (fun k => insF.l0 (gapCmp G) k (insB G x ra B ++ rest) 0 (m : Int) ((i + 1 : Nat) : Int)) R →
    Ev (fun k => insF.l1 (gapCmp G) k (ra.reverse ++ x :: (B ++ rest)) 0 (m : Int) (i : Int) (ra.length : Int)) R := by
  intro ra
  induction ra with
  | nil =>
    intro B hB hr hz hR
    refine Ev.step (fun k => by rw [insF.l1]) ?_
    rw [wrap_succ (n := i) (by omega)]
    exact ev_neg (by simp) hR
  | cons y ra ih =>
    intro B hB hr hz hR
    rw [List.length_cons] at hB
    have hy := hz y List.mem_cons_self
    have gx := hG (rd G x) (rd_mem hx.1 hx.2)
    have gy := hG (rd G y) (rd_mem hy.1 hy.2)
    have ej : wrap64 (((y :: ra).length : Int) - 1) = (ra.length : Int) := by
      rw [List.length_cons, wrap_id (by omega) (by omega)]; omega
    have e1 : rd ((y :: ra).reverse ++ x :: (B ++ rest)) ((y :: ra).length : Int) = x := by
      have := rd_mid (y :: ra).reverse (B ++ rest) x
      rwa [List.length_reverse] at this
    have e2 : rd ((y :: ra).reverse ++ x :: (B ++ rest)) (ra.length : Int) = y := by
      have := rd_mid ra.reverse (x :: (B ++ rest)) y
      rw [List.length_reverse] at this
      rw [List.reverse_cons, List.append_assoc]
      exact this
    have hlen : ((y :: ra).reverse ++ x :: (B ++ rest)).length = m := by
      simp only [List.length_append, List.length_reverse, List.length_cons]; omega
    refine Ev.step (fun k => by rw [insF.l1]) ?_
    rw [ej, e1, e2, hlen]
    refine ev_pos (by rw [List.length_cons]; omega) (ev_pos (by omega) (ev_pos (by rw [List.length_cons]; omega) (ev_pos (by omega) (ev_pos (by omega) ?_))))
    rw [insB] at hR
    by_cases c : rd G x < rd G y
    · rw [if_pos c] at hR
      refine ev_pos (by unfold gapCmp; rw [wrap_id (by omega) (by omega)]; omega) (ev_pos (by rw [List.length_cons]; omega) ?_)
      have e3 : (((y :: ra).reverse ++ x :: (B ++ rest)).set ((y :: ra).length : Int).toNat y).set (ra.length : Int).toNat x = ra.reverse ++ x :: ((y :: B) ++ rest) := by
        rw [Int.toNat_natCast, Int.toNat_natCast]
        have h1 := set_mid1 (y :: ra).reverse (B ++ rest) x y
        rw [List.length_reverse] at h1
        rw [h1, List.reverse_cons, List.append_assoc]
        have h2 := set_mid1 ra.reverse (y :: (B ++ rest)) y x
        rw [List.length_reverse] at h2
        exact h2
      rw [e3]
      exact ih (y :: B) (by rw [List.length_cons]; omega) hr (fun z hz' => hz z (List.mem_cons_of_mem _ hz')) hR
    · rw [if_neg c] at hR
      refine ev_neg (by unfold gapCmp; rw [wrap_id (by omega) (by omega)]; omega) ?_
      rw [wrap_succ (n := i) (by omega)]
      rw [List.append_assoc] at hR
      exact hR
theorem impl_ins_l0 (G : List Int) (hG : ∀ x ∈ G, 1 ≤ x ∧ x ≤ 40) (m : Nat) (hm : m ≤ G.length) (hm8 : m ≤ 100) : ∀ d i : Nat, i + d = m →
    Ev (fun k => insF.l0 (gapCmp G) k (ordF G i ++ (List.range' i (m - i)).map fun (j : Nat) => (j : Int)) 0 (m : Int) (i : Int)) (ordF G m) := by
  intro d
  induction d with
  | zero =>
    intro i hi
    obtain rfl : i = m := by omega
    refine Ev.step (fun k => by rw [insF.l0]) ?_
    rw [Nat.sub_self]
    exact ev_neg (by omega) (ev_is (by simp))
  | succ d ih =>
    intro i hi
    have hl := ordF_length G i
    have ih := ih (i + 1) (by omega)
    rw [ordF] at ih
    have h := impl_ins_l1 G hG m i hm hm8 (by omega) (i : Int) (by omega) _ _ (ordF G i).reverse [] (by rw [List.length_reverse, hl]; rfl) (by rw [List.length_map, List.length_range']; omega) (fun z hz => by
      have := (ordF_mem G i z).1 (List.mem_reverse.1 hz); omega) ih
    rw [List.reverse_reverse, List.length_reverse, hl, List.nil_append] at h
    refine Ev.step (fun k => by rw [insF.l0]) ?_
    rw [upTo_split i m (by omega)]
    exact ev_pos (by omega) h
theorem byGap_ev (G : List Int) (hG : ∀ x ∈ G, 1 ≤ x ∧ x ≤ 40) (h8 : 1 ≤ G.length ∧ G.length ≤ 8) : Ev (fun k => impl_Tasks_byGap.f k G) (ordF G G.length) := by
  have main : ∀ d n : Nat, n + d = G.length → Ev (fun k => impl_Tasks_byGap.l0 k G (G.length : Int) ((List.range' 0 n).map fun (j : Nat) => (j : Int)) (n : Int)) (ordF G G.length) := by
    intro d
    induction d with
    | zero =>
      intro n hn
      obtain rfl : n = G.length := by omega
      refine Ev.step (fun k => by rw [impl_Tasks_byGap.l0]) ?_
      refine ev_neg (by omega) (ev_pos ⟨by simp; omega, fun x hx => ?_⟩ ?_)
      · obtain ⟨j, hj, rfl⟩ := List.mem_map.1 hx
        have := List.mem_range'_1.1 hj
        omega
      · have h := impl_ins_l0 G hG G.length (Nat.le_refl _) (by omega) (G.length - 1) 1 (by omega)
        have e : ordF G 1 ++ (List.range' 1 (G.length - 1)).map (fun (j : Nat) => (j : Int)) = (List.range' 0 G.length).map (fun (j : Nat) => (j : Int)) := by
          have := upTo_split 0 G.length (by omega)
          rw [Nat.sub_zero] at this
          rw [this]
          rfl
        rw [e] at h
        rw [wrap_id (by omega) (by omega), show (((List.range' 0 G.length).map fun (j : Nat) => (j : Int)).length : Int) = (G.length : Int) by simp]
        exact h
    | succ d ih =>
      intro n hn
      refine Ev.step (fun k => by rw [impl_Tasks_byGap.l0]) ?_
      rw [wrap_succ (by omega)]
      have ih := ih (n + 1) (by omega)
      rw [List.range'_1_concat, List.map_append] at ih
      simp only [List.map_cons, List.map_nil, Nat.zero_add] at ih
      exact ev_pos (by omega) (ev_pos (by simp; omega) ih)
  unfold impl_Tasks_byGap.f
  refine ev_fix (show impl_Tasks_many.f G = some (G.length : Int) from rfl) ?_
  exact main G.length 0 (by omega)
def gapsBy (G o : List Int) : List Int := o.map fun t => rd G t
theorem spec_ins_l1 (G : List Int) (hG : ∀ x ∈ G, 1 ≤ x ∧ x ≤ 40) (i : Nat) (hi : i < G.length) (hi8 : i ≤ 100) (R : List Int × List Int) : ∀ (ra B : List Int) (z : Int), ra.length + B.length = i → (∀ y ∈ ra, 0 ≤ y ∧ y < (G.length : Int)) →
    Ev (fun k => spec_l01Sorted.l0 k (insB G (i : Int) ra B) ((i + 1 : Nat) : Int) G) R →
    Ev (fun k => spec_l01Sorted.l1 k (ra.reverse ++ z :: B) (i : Int) (ra.length : Int) G) R := by
  intro ra
  induction ra with
  | nil =>
    intro B z hB hz hR
    refine Ev.step (fun k => by rw [spec_l01Sorted.l1]) ?_
    rw [wrap_succ (n := i) (by omega)]
    refine ev_neg (by simp) (ev_pos (by simp) (ev_pos (by simp) ?_))
    exact hR
  | cons y ra ih =>
    intro B z hB hz hR
    rw [List.length_cons] at hB
    have hy := hz y List.mem_cons_self
    have ej : wrap64 (((y :: ra).length : Int) - 1) = (ra.length : Int) := by
      rw [List.length_cons, wrap_id (by omega) (by omega)]; omega
    have e2 : rd ((y :: ra).reverse ++ z :: B) (ra.length : Int) = y := by
      have := rd_mid ra.reverse (z :: B) y
      rw [List.length_reverse] at this
      rw [List.reverse_cons, List.append_assoc]
      exact this
    have hlen : ((y :: ra).reverse ++ z :: B).length = i + 1 := by
      simp only [List.length_append, List.length_reverse, List.length_cons]; omega
    have hset : ∀ v : Int, ((y :: ra).reverse ++ z :: B).set ((y :: ra).length : Int).toNat v = (y :: ra).reverse ++ v :: B := fun v => by
      have h1 := set_mid1 (y :: ra).reverse B z v
      rw [List.length_reverse] at h1
      rw [Int.toNat_natCast]
      exact h1
    refine Ev.step (fun k => by rw [spec_l01Sorted.l1]) ?_
    rw [ej, e2, hlen, hset, hset]
    refine ev_pos (by rw [List.length_cons]; omega) (ev_pos (by omega) (ev_pos (by omega) (ev_pos (by omega) (ev_pos (by omega) (ev_pos (by omega) (ev_pos (by omega) ?_))))))
    rw [insB] at hR
    by_cases c : rd G (i : Int) < rd G y
    · rw [if_pos c] at hR
      refine ev_pos (by omega) (ev_pos (by rw [List.length_cons]; omega) (ev_pos (by rw [List.length_cons]; omega) ?_))
      have h := ih (y :: B) y (by rw [List.length_cons]; omega) (fun v hv => hz v (List.mem_cons_of_mem _ hv)) hR
      rw [List.reverse_cons, List.append_assoc]
      exact h
    · rw [if_neg c] at hR
      refine ev_neg (by omega) (ev_pos (by rw [List.length_cons]; omega) (ev_pos (by rw [List.length_cons]; omega) ?_))
      rw [wrap_succ (n := i) (by omega)]
      exact hR
theorem spec_sort_l2 (G o : List Int) (ho : ∀ t ∈ o, 0 ≤ t ∧ t < (G.length : Int)) (h8 : o.length ≤ 100) : ∀ d n : Nat, n + d = o.length → Ev (fun k => spec_l01Sorted.l2 k o (n : Int) G (gapsBy G (o.take n))) (gapsBy G o, o) := by
  intro d
  induction d with
  | zero =>
    intro n hn
    rw [List.take_of_length_le (by omega)]
    refine Ev.step (fun k => by rw [spec_l01Sorted.l2]) ?_
    exact ev_neg (by omega) (ev_now _)
  | succ d ih =>
    intro n hn
    have hlt : n < o.length := by omega
    have hm := ho _ (List.getElem_mem hlt)
    refine Ev.step (fun k => by rw [spec_l01Sorted.l2]) ?_
    rw [rd_nat hlt, wrap_succ (by omega)]
    have ih := ih (n + 1) (by omega)
    rw [List.take_succ_eq_append_getElem hlt, gapsBy, List.map_append] at ih
    exact ev_pos (by omega) (ev_pos (by omega) (ev_pos (by omega) (ev_pos (by omega) (ev_pos (by rw [gapsBy, List.length_map, List.length_take]; omega) ih))))
theorem l01Sorted_ev (G : List Int) (hG : ∀ x ∈ G, 1 ≤ x ∧ x ≤ 40) (h8 : G.length ≤ 8) : Ev (fun k => spec_l01Sorted.f k G) (gapsBy G (ordF G G.length), ordF G G.length) := by
  have main : ∀ d i : Nat, i + d = G.length → Ev (fun k => spec_l01Sorted.l0 k (ordF G i) (i : Int) G) (gapsBy G (ordF G G.length), ordF G G.length) := by
    intro d
    induction d with
    | zero =>
      intro i hi
      obtain rfl : i = G.length := by omega
      have hl := ordF_length G G.length
      refine Ev.step (fun k => by rw [spec_l01Sorted.l0]) (ev_fix (show spec_l01K.f G = some (G.length : Int) from rfl) ?_)
      exact ev_neg (by omega) (spec_sort_l2 G _ (fun t ht => (ordF_mem G _ t).1 ht) (by omega) G.length 0 (by omega))
    | succ d ih =>
      intro i hi
      have hl := ordF_length G i
      have ih := ih (i + 1) (by omega)
      rw [ordF] at ih
      have h := spec_ins_l1 G hG i (by omega) (by omega) _ (ordF G i).reverse [] (i : Int) (by rw [List.length_reverse, hl]; rfl) (fun y hy => by
        have := (ordF_mem G i y).1 (List.mem_reverse.1 hy); omega) ih
      rw [List.reverse_reverse, List.length_reverse] at h
      refine Ev.step (fun k => by rw [spec_l01Sorted.l0]) (ev_fix (show spec_l01K.f G = some (G.length : Int) from rfl) ?_)
      exact ev_pos (by omega) (ev_pos (by omega) h)
  unfold spec_l01Sorted.f
  exact main G.length 0 (by omega)
end Go.Proofs.Ytjijiaejkcaflaa.Pure
end
section
namespace Go.Proofs.Ytjijiaejkcaflaa.Pure
open Go.RowKit Go.Proofs.Ytjijiaejkcaflaa.P Go.Proofs.YtjijiaejkcaflaaW.PrintWords Go.Proofs.YtjijiaejkcaflaaW.PrintLast Go.Proofs.YtjijiaejkcaflaaW.PrintMore
set_option linter.unusedVariables false
set_option linter.unusedSimpArgs false
def fillM (g t : Nat) : Nat → Nat → List Int → List Int
  | 0, _, out => out
  | m + 1, p, out => fillM g t m (p + g) (out.set p (t : Int))
theorem fillM_length (g t : Nat) : ∀ m p out, (fillM g t m p out).length = out.length := by
  intro m
  induction m with
  | zero => intro p out; rfl
  | succ m ih => intro p out; rw [fillM, ih, List.length_set]
/-- what a task's slots are -/
theorem fillM_rd (g t : Nat) (hg : 0 < g) : ∀ (m p : Nat) (out : List Int), p + m * g < out.length + g → ∀ s : Nat, s < out.length → rd (fillM g t m p out) (s : Int) = if (p ≤ s ∧ s < p + m * g ∧ (s - p) % g = 0) then (t : Int) else rd out (s : Int) := by
  intro m
  induction m with
  | zero =>
    intro p out _ s _
    rw [fillM, if_neg (by omega)]
  | succ m ih =>
    intro p out hp s hs
    have e : (m + 1) * g = m * g + g := Nat.succ_mul m g
    rw [fillM, ih (p + g) (out.set p (t : Int)) (by rw [List.length_set]; omega) s (by rw [List.length_set]; exact hs), rd_set (by omega)]
    by_cases c : s = p
    · subst c
      rw [if_neg (by omega), if_pos rfl, if_pos ⟨by omega, by omega, by simp⟩]
    · rw [if_neg c]
      by_cases d : p + g ≤ s ∧ s < p + g + m * g ∧ (s - (p + g)) % g = 0
      · rw [if_pos d]
        have e2 : (s - p) % g = 0 := by
          rw [show s - p = s - (p + g) + g by omega, Nat.add_mod_right]
          exact d.2.2
        rw [if_pos ⟨by omega, by omega, e2⟩]
      · rw [if_neg d]
        by_cases f : p ≤ s ∧ s < p + (m + 1) * g ∧ (s - p) % g = 0
        · exfalso
          obtain ⟨f1, f2, f3⟩ := f
          have f4 : g ≤ s - p := by
            rcases Nat.lt_or_ge (s - p) g with h | h
            · rw [Nat.mod_eq_of_lt h] at f3; omega
            · exact h
          refine d ⟨by omega, by omega, ?_⟩
          rw [show s - p = s - (p + g) + g by omega, Nat.add_mod_right] at f3
          exact f3
        · rw [if_neg f]
/-- free slots repeat -/
def Per (out : List Int) (h : Nat) : Prop := ∀ s : Nat, s + h < out.length → (rd out (s : Int) < 0 ↔ rd out ((s + h : Nat) : Int) < 0)
theorem Per.mul {out : List Int} {h : Nat} (P : Per out h) : ∀ c s : Nat, s + c * h < out.length → (rd out (s : Int) < 0 ↔ rd out ((s + c * h : Nat) : Int) < 0) := by
  intro c
  induction c with
  | zero => intro s _; rw [Nat.zero_mul, Nat.add_zero]
  | succ c ih =>
    intro s hs
    have e : (c + 1) * h = c * h + h := Nat.succ_mul c h
    rw [ih s (by omega), P (s + c * h) (by omega), show s + c * h + h = s + (c + 1) * h by omega]
theorem Per.dvd {out : List Int} {h h' : Nat} (P : Per out h) (d : h ∣ h') : Per out h' := by
  obtain ⟨c, rfl⟩ := d
  intro s hs
  rw [Nat.mul_comm] at hs ⊢
  exact P.mul c s hs
def firstFree (out : List Int) : Nat := out.findIdx (fun x => decide (x < 0))
theorem firstFree_free {out : List Int} (h : firstFree out < out.length) : rd out (firstFree out : Int) < 0 := by
  rw [rd_nat h]
  have := List.findIdx_getElem (p := fun x => decide (x < 0)) (xs := out) (w := h)
  exact of_decide_eq_true this
theorem firstFree_before {out : List Int} {s : Nat} (h : s < firstFree out) (hs : s < out.length) : ¬ rd out (s : Int) < 0 := by
  rw [rd_nat hs]
  have := List.not_of_lt_findIdx (p := fun x => decide (x < 0)) h
  intro hn
  simp [hn] at this
theorem neg_zero : ∀ (l : List Int), neg l = 0 ↔ ∀ x ∈ l, ¬ x < 0 := by
  intro l
  induction l with
  | nil => simp [neg]
  | cons y l ih =>
    simp only [neg, List.forall_mem_cons]
    rw [← ih]
    split <;> omega
theorem firstFree_lt (out : List Int) : firstFree out < out.length ↔ 0 < neg out := by
  unfold firstFree
  rw [List.findIdx_lt_length]
  constructor
  · rintro ⟨x, hx, hp⟩
    rcases Nat.eq_zero_or_pos (neg out) with h | h
    · exact absurd (of_decide_eq_true hp) ((neg_zero out).1 h x hx)
    · exact h
  · intro h
    by_cases c : ∃ x, x ∈ out ∧ x < 0
    · obtain ⟨x, hx, hn⟩ := c
      exact ⟨x, hx, decide_eq_true hn⟩
    · have := (neg_zero out).2 (fun x hx hn => c ⟨x, hx, hn⟩)
      omega
theorem firstFree_small {out : List Int} {h : Nat} (P : Per out h) (hh : 0 < h) (hf : firstFree out < out.length) : firstFree out < h := by
  rcases Nat.lt_or_ge (firstFree out) h with c | c
  · exact c
  · exfalso
    have h1 := firstFree_free hf
    have h2 := P (firstFree out - h) (by omega)
    rw [show firstFree out - h + h = firstFree out by omega] at h2
    exact firstFree_before (s := firstFree out - h) (by omega) (by omega) (h2.2 h1)
/-- filling slots that are free -/
theorem fillM_neg (g t : Nat) (hg : 0 < g) : ∀ (m p : Nat) (out : List Int), p + m * g < out.length + g → (∀ j, j < m → rd out ((p + j * g : Nat) : Int) < 0) → neg (fillM g t m p out) + m = neg out := by
  intro m
  induction m with
  | zero => intro p out _ _; rfl
  | succ m ih =>
    intro p out hp hf
    have e : (m + 1) * g = m * g + g := Nat.succ_mul m g
    have h0 := hf 0 (by omega)
    rw [Nat.zero_mul, Nat.add_zero, rd_nat (by omega)] at h0
    have h1 := neg_set (t : Int) (by omega) out p (by omega) h0
    have h2 := ih (p + g) (out.set p (t : Int)) (by rw [List.length_set]; omega) (fun j hj => by
      have h3 := hf (j + 1) (by omega)
      have e2 : (j + 1) * g = j * g + g := Nat.succ_mul j g
      rw [rd_set (by omega), if_neg (by omega), show p + g + j * g = p + (j + 1) * g by omega]
      exact h3)
    rw [fillM]
    omega
/-- one task -/
structure Place (out : List Int) (N h : Nat) : Prop where
  len : out.length = N
  per : Per out h
theorem place_ok {out : List Int} {N h q : Nat} (P : Place out N h) (hh : 0 < h) (hN : N = q * h) (t : Nat) (hf : firstFree out < N) :
    Place (fillM h t q (firstFree out) out) N h ∧ neg (fillM h t q (firstFree out) out) + q = neg out := by
  have hl := P.len
  have hs := firstFree_small P.per hh (by omega)
  have hfree := firstFree_free (out := out) (by omega)
  have hp : firstFree out + q * h < out.length + h := by omega
  refine ⟨⟨by rw [fillM_length]; exact hl, fun s hs2 => ?_⟩, fillM_neg h t hh q _ out hp fun j hj => ?_⟩
  · rw [fillM_length] at hs2
    rw [fillM_rd h t hh q _ out hp s (by omega), fillM_rd h t hh q _ out hp (s + h) (by omega)]
    have e : ∀ u : Nat, u < N → ((firstFree out ≤ u ∧ u < firstFree out + q * h ∧ (u - firstFree out) % h = 0) ↔ u % h = firstFree out) := fun u hu => by
      constructor
      · rintro ⟨h1, _, h3⟩
        have h4 : u = firstFree out + (u - firstFree out) := by omega
        obtain ⟨c, hc⟩ := Nat.dvd_of_mod_eq_zero h3
        rw [h4, hc, Nat.add_mul_mod_self_left, Nat.mod_eq_of_lt hs]
      · intro h1
        have h2 := Nat.mod_add_div u h
        rw [h1] at h2
        refine ⟨by omega, by omega, ?_⟩
        rw [show u - firstFree out = h * (u / h) by omega, Nat.mul_mod_right]
    by_cases c : s % h = firstFree out
    · rw [if_pos ((e s (by omega)).2 c), if_pos ((e (s + h) (by omega)).2 (by rw [Nat.add_mod_right]; exact c))]
    · rw [if_neg (fun h5 => c ((e s (by omega)).1 h5)), if_neg (fun h5 => c (by have := (e (s + h) (by omega)).1 h5; rwa [Nat.add_mod_right] at this))]
      exact P.per s (by omega)
  · have hjq : (j + 1) * h ≤ q * h := Nat.mul_le_mul_right h hj
    have e2 : (j + 1) * h = j * h + h := Nat.succ_mul j h
    exact (P.per.mul j (firstFree out) (by omega)).1 hfree
/-- all tasks -/
def gre (G : List Int) (N : Nat) : List Int → List Int → Option (List Int)
  | [], out => some out
  | t :: ts, out => if firstFree out < N then gre G N ts (fillM (rd G t).toNat t.toNat (N / (rd G t).toNat) (firstFree out) out) else none
def need (G : List Int) (N : Nat) (t : Int) : Int := ((N / (rd G t).toNat : Nat) : Int)
theorem gre_none (G : List Int) (N : Nat) (hN : 0 < N) : ∀ (ts out : List Int), (∀ t ∈ ts, 0 ≤ t ∧ 0 < (rd G t).toNat ∧ (rd G t).toNat ∣ N) → ts.Pairwise (fun a b => (rd G a).toNat ∣ (rd G b).toNat) → (∀ h, ts.head? = some h → Place out N (rd G h).toNat) → out.length = N →
    (gre G N ts out = none ↔ sumF (need G N) ts > (neg out : Int)) := by
  intro ts
  induction ts with
  | nil => intro out _ _ _ _; simp [gre, sumF]
  | cons t ts ih =>
    intro out ht hp hh hl
    obtain ⟨h0, h1, h2⟩ := ht t List.mem_cons_self
    have P := hh t rfl
    have hq : N = N / (rd G t).toNat * (rd G t).toNat := (Nat.div_mul_cancel h2).symm
    have hnn : ∀ l : List Int, 0 ≤ sumF (need G N) l := fun l => by
      induction l with
      | nil => exact Int.le_refl _
      | cons y l ih => exact Int.add_nonneg (Int.natCast_nonneg _) ih
    rw [gre, sumF]
    by_cases c : firstFree out < N
    · rw [if_pos c]
      obtain ⟨P2, hn⟩ := place_ok P h1 hq t.toNat c
      rw [List.pairwise_cons] at hp
      rw [ih _ (fun z hz => ht z (List.mem_cons_of_mem _ hz)) hp.2 (fun h hh2 => ⟨P2.len, P2.per.dvd (hp.1 h (List.mem_of_mem_head? hh2))⟩) P2.len]
      show _ ↔ ((N / (rd G t).toNat : Nat) : Int) + _ > _
      omega
    · rw [if_neg c]
      have : neg out = 0 := by
        rcases Nat.eq_zero_or_pos (neg out) with h | h
        · exact h
        · exact absurd ((firstFree_lt out).2 h) (by omega)
      have h3 := hnn ts
      have h4 : 0 < N / (rd G t).toNat := Nat.div_pos (Nat.le_of_dvd hN h2) h1
      constructor
      · intro _
        show ((N / (rd G t).toNat : Nat) : Int) + _ > _
        omega
      · intro _; rfl
end Go.Proofs.Ytjijiaejkcaflaa.Pure
end
section
namespace Go.Proofs.Ytjijiaejkcaflaa.Pure
open Go.RowKit Go.Proofs.Ytjijiaejkcaflaa.P Go.Proofs.YtjijiaejkcaflaaW.PrintWords Go.Proofs.YtjijiaejkcaflaaW.PrintLast Go.Proofs.YtjijiaejkcaflaaW.PrintMore
set_option linter.unusedVariables false
set_option linter.unusedSimpArgs false
theorem Index_l0 (l : List Int) (x : Int) (hl : l.length ≤ 9223372036854775807) : ∀ d n : Nat, n + d = l.length → (∀ y ∈ l.take n, y ≠ x) → Ev (fun k => slices_Index_Sint64_int64.l0 k l x (l.length : Int) (n : Int)) (if x ∈ l then (l.idxOf x : Int) else -1) := by
  intro d
  induction d with
  | zero =>
    intro n hn hno
    refine Ev.step (fun k => by rw [slices_Index_Sint64_int64.l0]) (ev_neg (by omega) (ev_is ?_))
    rw [List.take_of_length_le (by omega)] at hno
    rw [if_neg (fun h => hno x h rfl)]
  | succ d ih =>
    intro n hn hno
    have hlt : n < l.length := by omega
    refine Ev.step (fun k => by rw [slices_Index_Sint64_int64.l0]) (ev_pos (by omega) (ev_pos (by omega) (ev_pos (by omega) ?_)))
    rw [rd_nat hlt]
    by_cases h : x = l[n]
    · refine ev_pos h (ev_is ?_)
      rw [if_pos (h ▸ List.getElem_mem hlt)]
      congr 2
      symm
      rw [List.idxOf, List.findIdx_eq hlt]
      refine ⟨by simp [h], fun j hj => ?_⟩
      have := hno l[j] (List.mem_take_iff_getElem.2 ⟨j, by omega, rfl⟩)
      simpa using this
    · refine ev_neg h ?_
      rw [wrap_succ (by omega)]
      refine ih (n + 1) (by omega) ?_
      rw [List.take_succ_eq_append_getElem hlt]
      intro y hy
      rcases List.mem_append.1 hy with hy | hy
      · exact hno y hy
      · rw [List.mem_singleton.1 hy]; exact fun e => h e.symm
theorem Index_ev (l : List Int) (x : Int) (hl : l.length ≤ 9223372036854775807) : Ev (fun k => slices_Index_Sint64_int64.f k l x) (if x ∈ l then (l.idxOf x : Int) else -1) := by
  unfold slices_Index_Sint64_int64.f
  exact Index_l0 l x hl l.length 0 (by omega) (by simp)
end Go.Proofs.Ytjijiaejkcaflaa.Pure
end
section
namespace Go.Proofs.Ytjijiaejkcaflaa.Pure
open Go.RowKit Go.Proofs.Ytjijiaejkcaflaa.P Go.Proofs.YtjijiaejkcaflaaW.PrintWords Go.Proofs.YtjijiaejkcaflaaW.PrintLast Go.Proofs.YtjijiaejkcaflaaW.PrintMore
set_option linter.unusedVariables false
set_option linter.unusedSimpArgs false
/-- a list of turns: idle slots are -1 -/
def IdleOk (out : List Int) : Prop := ∀ x ∈ out, -1 ≤ x
theorem fillM_idle (g t : Nat) : ∀ m p out, IdleOk out → IdleOk (fillM g t m p out) := by
  intro m
  induction m with
  | zero => intro p out h; exact h
  | succ m ih =>
    intro p out h
    rw [fillM]
    refine ih _ _ fun x hx => ?_
    rcases List.mem_or_eq_of_mem_set hx with hx | rfl
    · exact h x hx
    · omega
theorem fill_impl (G o : List Int) (hG : ∀ x ∈ G, 1 ≤ x ∧ x ≤ 40) (t : Nat) (ht : t < G.length) (N : Nat) (hN : N ≤ 1000) (i : Nat) (hi : i ≤ 1000) (R : List Int) : ∀ (m p : Nat) (out : List Int), out.length = N → (∀ j, j < m → p + j * (rd G (t : Int)).toNat < N) → N ≤ p + m * (rd G (t : Int)).toNat → p + m * (rd G (t : Int)).toNat ≤ 100000 →
    Ev (fun k => impl_Tasks_harmonic.l0 k (fillM (rd G (t : Int)).toNat t m p out) o (o.length : Int) ((i + 1 : Nat) : Int) G) R →
    Ev (fun k => impl_Tasks_harmonic.l1 k out (t : Int) (p : Int) o (o.length : Int) (i : Int) G) R := by
  have hg := hG _ (rd_mem (l := G) (i := (t : Int)) (by omega) (by omega))
  intro m
  induction m with
  | zero =>
    intro p out hl hj hle hb hR
    refine Ev.step (fun k => by rw [impl_Tasks_harmonic.l1]) ?_
    rw [wrap_succ (by omega)]
    exact ev_neg (by omega) hR
  | succ m ih =>
    intro p out hl hj hle hb hR
    have h0 := hj 0 (by omega)
    have e : (m + 1) * (rd G (t : Int)).toNat = m * (rd G (t : Int)).toNat + (rd G (t : Int)).toNat := Nat.succ_mul _ _
    refine Ev.step (fun k => by rw [impl_Tasks_harmonic.l1]) ?_
    rw [Int.toNat_natCast, wrap_id (x := (p : Int) + rd G (t : Int)) (by omega) (by omega), show (p : Int) + rd G (t : Int) = ((p + (rd G (t : Int)).toNat : Nat) : Int) by omega]
    refine ev_pos (by omega) (ev_pos (by omega) (ev_pos (by omega) (ev_pos (by omega) ?_)))
    exact ih (p + (rd G (t : Int)).toNat) _ (by rw [List.length_set]; exact hl) (fun j hj2 => by
      have h1 := hj (j + 1) (by omega)
      have e2 : (j + 1) * (rd G (t : Int)).toNat = j * (rd G (t : Int)).toNat + (rd G (t : Int)).toNat := Nat.succ_mul _ _
      omega) (by omega) (by omega) hR
theorem fill_spec (G o gs : List Int) (hG : ∀ x ∈ G, 1 ≤ x ∧ x ≤ 40) (t : Nat) (ht : t < G.length) (N : Nat) (hN : N ≤ 1000) (i : Nat) (hi : i < o.length) (hi2 : o.length ≤ 1000) (hgs : gs.length = o.length) (ho : rd o (i : Int) = (t : Int)) (hgi : rd gs (i : Int) = rd G (t : Int)) (R : List Int × Bool) : ∀ (m p : Nat) (out : List Int), out.length = N → (∀ j, j < m → p + j * (rd G (t : Int)).toNat < N) → N ≤ p + m * (rd G (t : Int)).toNat → p + m * (rd G (t : Int)).toNat ≤ 100000 →
    Ev (fun k => spec_l03Turns.l1 k o (fillM (rd G (t : Int)).toNat t m p out) ((i + 1 : Nat) : Int) gs) R →
    Ev (fun k => spec_l03Turns.l3 k o out (i : Int) (p : Int) gs) R := by
  have hg := hG _ (rd_mem (l := G) (i := (t : Int)) (by omega) (by omega))
  intro m
  induction m with
  | zero =>
    intro p out hl hj hle hb hR
    refine Ev.step (fun k => by rw [spec_l03Turns.l3]) ?_
    rw [wrap_succ (n := i) (by omega)]
    exact ev_neg (by omega) hR
  | succ m ih =>
    intro p out hl hj hle hb hR
    have h0 := hj 0 (by omega)
    have e : (m + 1) * (rd G (t : Int)).toNat = m * (rd G (t : Int)).toNat + (rd G (t : Int)).toNat := Nat.succ_mul _ _
    refine Ev.step (fun k => by rw [spec_l03Turns.l3]) ?_
    rw [ho, hgi, Int.toNat_natCast, wrap_id (x := (p : Int) + rd G (t : Int)) (by omega) (by omega), show (p : Int) + rd G (t : Int) = ((p + (rd G (t : Int)).toNat : Nat) : Int) by omega]
    refine ev_pos (by omega) (ev_pos (by omega) (ev_pos (by omega) (ev_pos (by omega) (ev_pos (by omega) ?_))))
    exact ih (p + (rd G (t : Int)).toNat) _ (by rw [List.length_set]; exact hl) (fun j hj2 => by
      have h1 := hj (j + 1) (by omega)
      have e2 : (j + 1) * (rd G (t : Int)).toNat = j * (rd G (t : Int)).toNat + (rd G (t : Int)).toNat := Nat.succ_mul _ _
      omega) (by omega) (by omega) hR
theorem idle_index {out : List Int} (h : IdleOk out) (hf : firstFree out < out.length) : (if (-1 : Int) ∈ out then (out.idxOf (-1) : Int) else -1) = (firstFree out : Int) := by
  have h1 := firstFree_free hf
  have h2 := h _ (rd_mem (l := out) (i := (firstFree out : Int)) (by omega) (by omega))
  have h3 : rd out (firstFree out : Int) = -1 := by omega
  rw [if_pos (by rw [← h3]; exact rd_mem (by omega) (by omega))]
  congr 1
  unfold firstFree List.idxOf
  have : ∀ l : List Int, IdleOk l → l.findIdx (· == (-1 : Int)) = l.findIdx (fun x => decide (x < 0)) := by
    intro l
    induction l with
    | nil => intro _; rfl
    | cons y l ih =>
      intro hl
      have hy := hl y List.mem_cons_self
      have e : (y == (-1 : Int)) = decide (y < 0) := by
        by_cases c : y < 0
        · rw [decide_eq_true c, beq_iff_eq]; omega
        · rw [decide_eq_false c]; exact beq_eq_false_iff_ne.2 (by omega)
      rw [List.findIdx_cons, List.findIdx_cons, e, ih (fun x hx => hl x (List.mem_cons_of_mem _ hx))]
  exact this out h
/-- the conditions of harmonic gaps, by the order of tasks -/
structure Harm (G : List Int) (N : Nat) (ts : List Int) : Prop where
  mem : ∀ t ∈ ts, 0 ≤ t ∧ t < (G.length : Int)
  dvd : ∀ t ∈ ts, (rd G t).toNat ∣ N
  pw : ts.Pairwise (fun a b => (rd G a).toNat ∣ (rd G b).toNat)
theorem fill_bounds {N g q f : Nat} (hg : 0 < g) (hq : N = q * g) (hf : f < g) : (∀ j, j < q → f + j * g < N) ∧ N ≤ f + q * g := by
  refine ⟨fun j hj => ?_, by omega⟩
  have h1 : (j + 1) * g ≤ q * g := Nat.mul_le_mul_right g hj
  have h2 : (j + 1) * g = j * g + g := Nat.succ_mul j g
  omega
theorem impl_harm_l0 (G o : List Int) (hG : ∀ x ∈ G, 1 ≤ x ∧ x ≤ 40) (N : Nat) (hN : N ≤ 40) (ho : o.length ≤ 8) : ∀ (ts : List Int) (i : Nat) (out : List Int), o.drop i = ts → i ≤ o.length → Harm G N ts → (∀ h, ts.head? = some h → Place out N (rd G h).toNat) → out.length = N → IdleOk out → ∀ r, gre G N ts out = some r →
    Ev (fun k => impl_Tasks_harmonic.l0 k out o (o.length : Int) (i : Int) G) r := by
  intro ts
  induction ts with
  | nil =>
    intro i out hd hi _ _ _ _ r hr
    have hlen : o.length - i = 0 := by rw [← List.length_drop, hd]; rfl
    rw [gre] at hr
    obtain rfl := Option.some.inj hr
    refine Ev.step (fun k => by rw [impl_Tasks_harmonic.l0]) ?_
    exact ev_neg (by omega) (ev_now _)
  | cons t ts ih =>
    intro i out hd hi hh hp hl hid r hr
    have hlen : o.length - i = ts.length + 1 := by rw [← List.length_drop, hd]; rfl
    have ht := hh.mem t List.mem_cons_self
    have hgt := hG _ (rd_mem ht.1 ht.2)
    have hdv := hh.dvd t List.mem_cons_self
    have P := hp t rfl
    have hro : rd o (i : Int) = t := by
      rw [rd_nat (by omega)]
      have h1 : (o.drop i)[0]? = some t := by rw [hd]; rfl
      rw [List.getElem?_drop, Nat.add_zero] at h1
      exact (List.getElem?_eq_some_iff.1 h1).2
    have hq : N = N / (rd G t).toNat * (rd G t).toNat := (Nat.div_mul_cancel hdv).symm
    rw [gre] at hr
    by_cases c : firstFree out < N
    · rw [if_pos c] at hr
      obtain ⟨P2, _⟩ := place_ok P (by omega) hq t.toNat c
      have hs := firstFree_small P.per (by omega) (by omega)
      have hb := fill_bounds (g := (rd G t).toNat) (by omega) hq hs
      have pw := hh.pw
      rw [List.pairwise_cons] at pw
      have hI := Index_ev out (-1) (by omega)
      rw [idle_index hid (by omega)] at hI
      have hn := ih (i + 1) _ (by rw [← List.drop_drop, hd]; rfl) (by omega) ⟨fun z hz => hh.mem z (List.mem_cons_of_mem _ hz), fun z hz => hh.dvd z (List.mem_cons_of_mem _ hz), pw.2⟩ (fun h hh2 => ⟨P2.len, P2.per.dvd (pw.1 h (List.mem_of_mem_head? hh2))⟩) P2.len (fillM_idle _ _ _ _ _ hid) r hr
      obtain ⟨tn, rfl⟩ : ∃ tn : Nat, t = tn := ⟨t.toNat, by omega⟩
      rw [Int.toNat_natCast] at hn
      refine Ev.step (fun k => by rw [impl_Tasks_harmonic.l0]) ?_
      rw [hro]
      refine ev_pos (by omega) (ev_pos (by omega) (ev_pos (by omega) (ev_bind hI ?_)))
      exact fill_impl G o hG tn (by omega) N (by omega) i (by omega) r _ _ out hl hb.1 hb.2 (by omega) hn
    · rw [if_neg c] at hr
      exact absurd hr (by simp)
theorem spec_free (o gs : List Int) (i : Nat) (out : List Int) (hl : out.length ≤ 1000) (R : List Int × Bool) (hR : Ev (fun k => spec_l03Turns.j3 k o out (i : Int) (firstFree out : Int) gs) R) : ∀ d n : Nat, n + d = firstFree out →
    Ev (fun k => spec_l03Turns.l2 k o out (i : Int) (n : Int) gs) R := by
  have hle : firstFree out ≤ out.length := List.findIdx_le_length
  intro d
  induction d with
  | zero =>
    intro n hn
    obtain rfl : n = firstFree out := by omega
    refine Ev.step (fun k => by rw [spec_l03Turns.l2]) ?_
    by_cases c : firstFree out < out.length
    · have := firstFree_free c
      exact ev_pos (by omega) (ev_pos (by omega) (ev_neg (by omega) hR))
    · exact ev_neg (by omega) hR
  | succ d ih =>
    intro n hn
    have := firstFree_before (out := out) (s := n) (by omega) (by omega)
    refine Ev.step (fun k => by rw [spec_l03Turns.l2]) ?_
    rw [wrap_succ (by omega)]
    exact ev_pos (by omega) (ev_pos (by omega) (ev_pos (by omega) (ih (n + 1) (by omega))))
end Go.Proofs.Ytjijiaejkcaflaa.Pure
end
