/- The program's SortTasks returns what the reference's returns, for all tasks; no condition beside. -/
import Derived.Test.YtbpgfjoplbkgmaaCFnExactSortTasks5
section
namespace Go.Proofs.Ytbpgfjoplbkgmaa.P
open Go.RowKit Go.Proofs.YtbpgfjoplbkgmaaW.PrintWords Go.Proofs.YtbpgfjoplbkgmaaW.PrintLast Go.Proofs.YtbpgfjoplbkgmaaW.PrintMore
attribute [local go_sem] max2_int min2_int max_two min_two max_three min_three max_four min_four   -- for this text's walks alone
set_option linter.unusedVariables false
set_option linter.unusedSimpArgs false
set_option maxHeartbeats 8000000 in
set_option maxRecDepth 100000 in
theorem laws_FnExactSortTasks.calls (k : Nat) (A0_0 : Option Addr) (c0_0 : Nat) (l0_0 : List Int) (r : Bool) (w : World) (hr0_0 : Kd.C (Kd.int .i64) w A0_0 l0_0.length l0_0) (hc0_0 : l0_0.length ≤ c0_0) (h : laws_FnExactSortTasks.f k l0_0 = some r) :
  Calls Try.prog 6 #[.agg #[.slice A0_0 l0_0.length c0_0]] w fun e w' => e = .returned (.bool r) ∧ Below w.heap.size w w' := by
 have hu56 := Try.underlying56
 have hu34 := Try.underlying34
 have HR0_0 := Aside0.mk hr0_0
 have HC0_0 := Aside0.mk hc0_0
 clear hr0_0 hc0_0
 have HB := Aside0.mk (Below.refl w.heap.size w)
 have H : ((laws_szTasks.f l0_0 1048576).bind fun t102 => (if t102 < 0 then (some true) else ((laws_toTasks.f k l0_0).bind fun t103 => ((spec_SortTasks.f k t103).bind fun bt106 => ((laws_toTasks.f k l0_0).bind fun t114 => ((impl_SortTasks.f k t114).bind fun bt118 => ((laws_eqTasks.f k bt118.1 bt106.1).bind fun t126 => (if t126 = true then ((laws_eqInt64S.f k bt118.2.1 bt106.2.1).bind fun t127 => (if t127 = true then (laws_FnExactSortTasks.j0 k bt106.2.1 bt106.2.2 bt118.2.1 bt118.2.2 (bt118.2.2 != bt106.2.2) l0_0 bt106.1 t114 bt118.1) else (laws_FnExactSortTasks.j0 k bt106.2.1 bt106.2.2 bt118.2.1 bt118.2.2 true l0_0 bt106.1 t114 bt118.1))) else (laws_FnExactSortTasks.j0 k bt106.2.1 bt106.2.2 bt118.2.1 bt118.2.2 true l0_0 bt106.1 t114 bt118.1))))))))) = some r := h
 clear h
 replace H := Option.bind_eq_some_iff.mp H
 obtain ⟨t102, A20, H⟩ := H
 replace H : (if t102 < 0 then (some true) else ((laws_toTasks.f k l0_0).bind fun t103 => ((spec_SortTasks.f k t103).bind fun bt106 => ((laws_toTasks.f k l0_0).bind fun t114 => ((impl_SortTasks.f k t114).bind fun bt118 => ((laws_eqTasks.f k bt118.1 bt106.1).bind fun t126 => (if t126 = true then ((laws_eqInt64S.f k bt118.2.1 bt106.2.1).bind fun t127 => (if t127 = true then (laws_FnExactSortTasks.j0 k bt106.2.1 bt106.2.2 bt118.2.1 bt118.2.2 (bt118.2.2 != bt106.2.2) l0_0 bt106.1 t114 bt118.1) else (laws_FnExactSortTasks.j0 k bt106.2.1 bt106.2.2 bt118.2.1 bt118.2.2 true l0_0 bt106.1 t114 bt118.1))) else (laws_FnExactSortTasks.j0 k bt106.2.1 bt106.2.2 bt118.2.1 bt118.2.2 true l0_0 bt106.1 t114 bt118.1)))))))) = some r := H
 have A2 := Aside0.mk A20
 clear A20
 by_cases c3 : t102 < 0
 ·
  rw [if_pos c3] at H
  have c3b0 : decide (t102 < 0) = true := decide_eq_true c3
  clear c3
  obtain rfl := Option.some.inj H
  go_enter Try.func6, Try.ntmps6
  go_wp2_with (first | ((with_reducible refine gate_dst (N := 1) rfl ?_); refine box_event ?hg (N := 1) ?hd (cs := #[.slice A0_0 l0_0.length c0_0]) (t := 56) ?hr ?_; (case hd => rfl); (case hg => rfl); (case hr => first | (go_simp; done) | (go_simp; rfl)); intro gb101 hg w4 hbox hb; have n0_ := Aside0.mk (below_step (by repeat (first | exact HB.out | apply below_alloc | apply pw_below_drewN | apply below_drew1)) hb); have n1_ := Aside0.mk (hbox); have n2_ := Aside0.mk ((by rw [hg]; exact (below_size (by repeat (first | exact HB.out | apply below_alloc | apply pw_below_drewN | apply below_drew1))) : w.heap.size ≤ gb101)); have n3_ := Aside0.mk ((by rw [hg]; exact (below_size (by repeat (first | exact HB.out | apply below_alloc | apply pw_below_drewN | apply below_drew1))) : w.heap.size ≤ gb101)); clear HB; have HB := n0_; have BK101 := n1_; have GW101 := n2_; have GE101 := n3_; clear n0_ n1_ n2_ n3_; clear hb hbox hg; have hcz5_0 : w4.cell? ⟨gb101, 0, none⟩ = some (.slice A0_0 l0_0.length c0_0) := (blk_cell BK101.out 0).trans rfl; have hfz5_0 := blk_frozen BK101.out 0) | ((with_reducible refine gate_callee (f := 57) rfl ?_); refine goesL_ (some 19) rfl rfl Try.func57 (by kernel_rfl) rfl #[.agg #[.slice A0_0 l0_0.length c0_0], .int .i64 1048576] rfl (by (try simp only [List.map_toArray, List.map_cons, List.map_nil]); first | done | rfl | (simp only [List.length_drop, List.length_take]; rfl)) ?_; (with_reducible refine (laws_szTasks.calls _ _ l0_0 1048576 t102 _ ?side1 ?side2 A2.out).mono ?_); (case side1 => repeat (first | exact (Kd.C_below HR0_0.out HB.out) | (with_reducible refine Kd.C_alloc ?_ _) | (with_reducible refine Kd.C_drewN ?_ _) | (with_reducible refine Kd.C_drew ?_))); (case side2 => exact HC0_0.out); rintro e w6 ⟨rfl, hb⟩; refine ⟨_, rfl, ?_⟩; have n0_ := Aside0.mk (blk_below (g := gb101) (o := .cells #[.slice A0_0 l0_0.length c0_0] 56 (0, 0)) (by (with_reducible repeat first | apply qc32_7 | apply qc32_8 | apply qc32_9); exact BK101.out) hb); have n1_ := Aside0.mk (below_step (by repeat (first | (with_reducible first | exact HB.out | apply below_alloc | apply pw_below_drewN | apply below_drew1 | refine below_set ?_ GE101.out) | exact HB.out)) hb); clear BK101; clear HB; have BK101 := n0_; have HB := n1_; clear n0_ n1_; (try clear hb); (try clear hb2); (try clear hk); (try clear hi)))
  go_ret
  exact ⟨by first | rfl | (simp [errW_none, errW_some] <;> rfl) | (simp [*, errW_none, errW_some] <;> rfl), by repeat (first | (with_reducible first | exact HB.out | apply below_alloc | apply pw_below_drewN | apply below_drew1 | refine below_set ?_ GE101.out) | exact HB.out)⟩
 ·
  rw [if_neg c3] at H
  have c3b0 : decide (t102 < 0) = false := decide_eq_false c3
  clear c3
  replace H := Option.bind_eq_some_iff.mp H
  obtain ⟨t103, A70, H⟩ := H
  replace H : ((spec_SortTasks.f k t103).bind fun bt106 => ((laws_toTasks.f k l0_0).bind fun t114 => ((impl_SortTasks.f k t114).bind fun bt118 => ((laws_eqTasks.f k bt118.1 bt106.1).bind fun t126 => (if t126 = true then ((laws_eqInt64S.f k bt118.2.1 bt106.2.1).bind fun t127 => (if t127 = true then (laws_FnExactSortTasks.j0 k bt106.2.1 bt106.2.2 bt118.2.1 bt118.2.2 (bt118.2.2 != bt106.2.2) l0_0 bt106.1 t114 bt118.1) else (laws_FnExactSortTasks.j0 k bt106.2.1 bt106.2.2 bt118.2.1 bt118.2.2 true l0_0 bt106.1 t114 bt118.1))) else (laws_FnExactSortTasks.j0 k bt106.2.1 bt106.2.2 bt118.2.1 bt118.2.2 true l0_0 bt106.1 t114 bt118.1)))))) = some r := H
  have A7 := Aside0.mk A70
  clear A70
  replace H := Option.bind_eq_some_iff.mp H
  obtain ⟨⟨t106, t109, t112⟩, A80, H⟩ := H
  replace H : ((laws_toTasks.f k l0_0).bind fun t114 => ((impl_SortTasks.f k t114).bind fun bt118 => ((laws_eqTasks.f k bt118.1 t106).bind fun t126 => (if t126 = true then ((laws_eqInt64S.f k bt118.2.1 t109).bind fun t127 => (if t127 = true then (laws_FnExactSortTasks.j0 k t109 t112 bt118.2.1 bt118.2.2 (bt118.2.2 != t112) l0_0 t106 t114 bt118.1) else (laws_FnExactSortTasks.j0 k t109 t112 bt118.2.1 bt118.2.2 true l0_0 t106 t114 bt118.1))) else (laws_FnExactSortTasks.j0 k t109 t112 bt118.2.1 bt118.2.2 true l0_0 t106 t114 bt118.1))))) = some r := H
  have A8 := Aside0.mk A80
  clear A80
  replace H := Option.bind_eq_some_iff.mp H
  obtain ⟨t114, A90, H⟩ := H
  replace H : ((impl_SortTasks.f k t114).bind fun bt118 => ((laws_eqTasks.f k bt118.1 t106).bind fun t126 => (if t126 = true then ((laws_eqInt64S.f k bt118.2.1 t109).bind fun t127 => (if t127 = true then (laws_FnExactSortTasks.j0 k t109 t112 bt118.2.1 bt118.2.2 (bt118.2.2 != t112) l0_0 t106 t114 bt118.1) else (laws_FnExactSortTasks.j0 k t109 t112 bt118.2.1 bt118.2.2 true l0_0 t106 t114 bt118.1))) else (laws_FnExactSortTasks.j0 k t109 t112 bt118.2.1 bt118.2.2 true l0_0 t106 t114 bt118.1)))) = some r := H
  have A9 := Aside0.mk A90
  clear A90
  replace H := Option.bind_eq_some_iff.mp H
  obtain ⟨⟨t118, t121, t124⟩, A100, H⟩ := H
  replace H : ((laws_eqTasks.f k t118 t106).bind fun t126 => (if t126 = true then ((laws_eqInt64S.f k t121 t109).bind fun t127 => (if t127 = true then (laws_FnExactSortTasks.j0 k t109 t112 t121 t124 (t124 != t112) l0_0 t106 t114 t118) else (laws_FnExactSortTasks.j0 k t109 t112 t121 t124 true l0_0 t106 t114 t118))) else (laws_FnExactSortTasks.j0 k t109 t112 t121 t124 true l0_0 t106 t114 t118))) = some r := H
  have A10 := Aside0.mk A100
  clear A100
  have HC11 := Aside0.mk H
  clear H
  go_enter Try.func6, Try.ntmps6
  go_upto_region 8 with (first | ((with_reducible refine gate_dst (N := 1) rfl ?_); refine box_event ?hg (N := 1) ?hd (cs := #[.slice A0_0 l0_0.length c0_0]) (t := 56) ?hr ?_; (case hd => rfl); (case hg => rfl); (case hr => first | (go_simp; done) | (go_simp; rfl)); intro gb101 hg w12 hbox hb; have n0_ := Aside0.mk (below_step (by repeat (first | exact HB.out | apply below_alloc | apply pw_below_drewN | apply below_drew1)) hb); have n1_ := Aside0.mk (hbox); have n2_ := Aside0.mk ((by rw [hg]; exact (below_size (by repeat (first | exact HB.out | apply below_alloc | apply pw_below_drewN | apply below_drew1))) : w.heap.size ≤ gb101)); have n3_ := Aside0.mk ((by rw [hg]; exact (below_size (by repeat (first | exact HB.out | apply below_alloc | apply pw_below_drewN | apply below_drew1))) : w.heap.size ≤ gb101)); clear HB; have HB := n0_; have BK101 := n1_; have GW101 := n2_; have GE101 := n3_; clear n0_ n1_ n2_ n3_; clear hb hbox hg; have hcz13_0 : w12.cell? ⟨gb101, 0, none⟩ = some (.slice A0_0 l0_0.length c0_0) := (blk_cell BK101.out 0).trans rfl; have hfz13_0 := blk_frozen BK101.out 0) | ((with_reducible refine gate_callee (f := 57) rfl ?_); refine goesL_ (some 19) rfl rfl Try.func57 (by kernel_rfl) rfl #[.agg #[.slice A0_0 l0_0.length c0_0], .int .i64 1048576] rfl (by (try simp only [List.map_toArray, List.map_cons, List.map_nil]); first | done | rfl | (simp only [List.length_drop, List.length_take]; rfl)) ?_; (with_reducible refine (laws_szTasks.calls _ _ l0_0 1048576 t102 _ ?side1 ?side2 A2.out).mono ?_); (case side1 => repeat (first | exact (Kd.C_below HR0_0.out HB.out) | (with_reducible refine Kd.C_alloc ?_ _) | (with_reducible refine Kd.C_drewN ?_ _) | (with_reducible refine Kd.C_drew ?_))); (case side2 => exact HC0_0.out); rintro e w14 ⟨rfl, hb⟩; refine ⟨_, rfl, ?_⟩; have n0_ := Aside0.mk (blk_below (g := gb101) (o := .cells #[.slice A0_0 l0_0.length c0_0] 56 (0, 0)) (by (with_reducible repeat first | apply qc32_7 | apply qc32_8 | apply qc32_9); exact BK101.out) hb); have n1_ := Aside0.mk (below_step (by repeat (first | (with_reducible first | exact HB.out | apply below_alloc | apply pw_below_drewN | apply below_drew1 | refine below_set ?_ GE101.out) | exact HB.out)) hb); clear BK101; clear HB; have BK101 := n0_; have HB := n1_; clear n0_ n1_; (try clear hb); (try clear hb2); (try clear hk); (try clear hi); have hcz15_0 : w14.cell? ⟨gb101, 0, none⟩ = some (.slice A0_0 l0_0.length c0_0) := (blk_cell BK101.out 0).trans rfl; have hfz15_0 := blk_frozen BK101.out 0) | ((with_reducible refine gate_callee (f := 59) rfl ?_); refine goesL_ (some 24) rfl rfl Try.func59 (by kernel_rfl) rfl #[.agg #[.slice A0_0 l0_0.length c0_0]] rfl (by (try simp only [List.map_toArray, List.map_cons, List.map_nil]); first | done | rfl | (simp only [List.length_drop, List.length_take]; rfl)) ?_; (with_reducible refine (laws_toTasks.calls k _ _ l0_0 t103 _ ?side1 ?side2 A7.out).mono ?_); (case side1 => repeat (first | exact (Kd.C_below HR0_0.out HB.out) | (with_reducible refine Kd.C_alloc ?_ _) | (with_reducible refine Kd.C_drewN ?_ _) | (with_reducible refine Kd.C_drew ?_))); (case side2 => exact HC0_0.out); rintro e w16 ⟨v104, rfl, ho0, hb⟩; refine ⟨_, rfl, ?_⟩; have n0_ := Aside0.mk (Kd.R_lower ho0 (below_size (by repeat (first | (with_reducible first | exact HB.out | apply below_alloc | apply pw_below_drewN | apply below_drew1 | refine below_set ?_ GE101.out) | exact HB.out)))); have n1_ := Aside0.mk (blk_below (g := gb101) (o := .cells #[.slice A0_0 l0_0.length c0_0] 56 (0, 0)) (by (with_reducible repeat first | apply qc32_7 | apply qc32_8 | apply qc32_9); exact BK101.out) hb); have n2_ := Aside0.mk (below_step (by repeat (first | (with_reducible first | exact HB.out | apply below_alloc | apply pw_below_drewN | apply below_drew1 | refine below_set ?_ GE101.out) | exact HB.out)) hb); clear BK101; clear HB; have HO105 := n0_; have BK101 := n1_; have HB := n2_; clear n0_ n1_ n2_; (try clear hb); (try clear hb2); (try clear hk); (try clear hi); (try clear ho0); obtain ⟨Ao17, co17, eo17⟩ := Kd.R_slice HO105.out; subst eo17) | ((with_reducible refine gate_callee (f := 58) rfl ?_); refine goesL_ (some 25) rfl rfl Try.func58 (by kernel_rfl) rfl #[.agg #[.slice Ao17 t103.length co17]] rfl (by (try simp only [List.map_toArray, List.map_cons, List.map_nil]); first | done | rfl | (simp only [List.length_drop, List.length_take]; rfl)) ?_; (with_reducible refine (spec_SortTasks.calls k _ _ t103 t106 t109 t112 _ ?side1 ?side2 A8.out).mono ?_); (case side1 => repeat (first | exact (Kd.R_reads' HO105.out).2.2 | (with_reducible refine Kd.C_alloc ?_ _) | (with_reducible refine Kd.C_drewN ?_ _) | (with_reducible refine Kd.C_drew ?_))); (case side2 => exact (Kd.R_reads' HO105.out).2.1); rintro e w18 ⟨v107, v110, rfl, ho0, ho1, hb⟩; refine ⟨_, rfl, ?_⟩; have n0_ := Aside0.mk (Kd.R_mono (Kd.R_told (Kd.R_told (Kd.R_old (by (with_reducible repeat first | apply qc32_4 | apply qc32_5 | apply qc32_6); exact HO105.out) hb) (Kd.R_base ho0)) (Kd.R_base ho1)) (fun _ h_ => h_.1)); have n1_ := Aside0.mk (Kd.R_lower (Kd.R_new' ho0 (Kd.R_lt (by (with_reducible repeat first | apply qc32_4 | apply qc32_5 | apply qc32_6); exact HO105.out))) (below_size (by repeat (first | (with_reducible first | exact HB.out | apply below_alloc | apply pw_below_drewN | apply below_drew1 | refine below_set ?_ GE101.out) | exact HB.out)))); have n2_ := Aside0.mk (Kd.R_lower (Kd.R_new' ho1 (Kd.R_lt (by (with_reducible repeat first | apply qc32_4 | apply qc32_5 | apply qc32_6); exact HO105.out))) (below_size (by repeat (first | (with_reducible first | exact HB.out | apply below_alloc | apply pw_below_drewN | apply below_drew1 | refine below_set ?_ GE101.out) | exact HB.out)))); have n3_ := Aside0.mk (blk_below (g := gb101) (o := .cells #[.slice A0_0 l0_0.length c0_0] 56 (0, 0)) (by (with_reducible repeat first | apply qc32_7 | apply qc32_8 | apply qc32_9); exact BK101.out) hb); have n4_ := Aside0.mk (below_step (by repeat (first | (with_reducible first | exact HB.out | apply below_alloc | apply pw_below_drewN | apply below_drew1 | refine below_set ?_ GE101.out) | exact HB.out)) hb); clear HO105; clear BK101; clear HB; have HO105 := n0_; have HO108 := n1_; have HO111 := n2_; have BK101 := n3_; have HB := n4_; clear n0_ n1_ n2_ n3_ n4_; (try clear hb); (try clear hb2); (try clear hk); (try clear hi); (try clear ho0); (try clear ho1)) | ((with_reducible refine gate_dst (N := 4) rfl ?_); refine box_event ?hg (N := 4) ?hd (cs := #[.slice none 0 0]) (t := 34) ?hr ?_; (case hd => rfl); (case hg => rfl); (case hr => first | (go_simp; done) | (go_simp; rfl)); intro gb113 hg w19 hbox hb; have n0_ := Aside0.mk (Kd.R_below (by (with_reducible repeat first | apply qc32_4 | apply qc32_5 | apply qc32_6); exact HO105.out) hb); have n1_ := Aside0.mk (Kd.R_below (by (with_reducible repeat first | apply qc32_4 | apply qc32_5 | apply qc32_6); exact HO108.out) hb); have n2_ := Aside0.mk (Kd.R_below (by (with_reducible repeat first | apply qc32_4 | apply qc32_5 | apply qc32_6); exact HO111.out) hb); have n3_ := Aside0.mk (blk_below (g := gb101) (o := .cells #[.slice A0_0 l0_0.length c0_0] 56 (0, 0)) (by (with_reducible repeat first | apply qc32_7 | apply qc32_8 | apply qc32_9); exact BK101.out) hb); have n4_ := Aside0.mk (below_step (by repeat (first | (with_reducible first | exact HB.out | apply below_alloc | apply pw_below_drewN | apply below_drew1 | refine below_set ?_ GE101.out) | exact HB.out)) hb); have n5_ := Aside0.mk (hbox); have n6_ := Aside0.mk ((by rw [hg]; exact (below_size (by repeat (first | (with_reducible first | exact HB.out | apply below_alloc | apply pw_below_drewN | apply below_drew1 | refine below_set ?_ GE101.out) | exact HB.out))) : w.heap.size ≤ gb113)); have n7_ := Aside0.mk ((by rw [hg]; exact (below_size (by repeat (first | (with_reducible first | exact HB.out | apply below_alloc | apply pw_below_drewN | apply below_drew1 | refine below_set ?_ GE101.out) | exact HB.out))) : w.heap.size ≤ gb113)); have n8_ := Aside0.mk ((by rw [hg]; exact Nat.ne_of_lt (blk_lt (g := gb101) (o := .cells #[.slice A0_0 l0_0.length c0_0] 56 (0, 0)) (by (with_reducible repeat first | apply qc32_7 | apply qc32_8 | apply qc32_9); exact BK101.out)) : gb101 ≠ gb113)); have n9_ := Aside0.mk ((by rw [hg]; exact Nat.ne_of_gt (blk_lt (g := gb101) (o := .cells #[.slice A0_0 l0_0.length c0_0] 56 (0, 0)) (by (with_reducible repeat first | apply qc32_7 | apply qc32_8 | apply qc32_9); exact BK101.out)) : gb113 ≠ gb101)); clear HO105; clear HO108; clear HO111; clear BK101; clear HB; have HO105 := n0_; have HO108 := n1_; have HO111 := n2_; have BK101 := n3_; have HB := n4_; have BK113 := n5_; have GW113 := n6_; have GE113 := n7_; have NB101_113 := n8_; have NB113_101 := n9_; clear n0_ n1_ n2_ n3_ n4_ n5_ n6_ n7_ n8_ n9_; clear hb hbox hg; obtain ⟨Ao20, co20, eo20⟩ := Kd.R_slice HO108.out; subst eo20; have hnb21 := NB113_101.out; have hnc21 := NB101_113.out; have hcz22_0 : w19.cell? ⟨gb113, 0, none⟩ = some (.slice none 0 0) := (blk_cell BK113.out 0).trans rfl; have hfz22_0 := blk_frozen BK113.out 0; have hcz23_0 : w19.cell? ⟨gb101, 0, none⟩ = some (.slice A0_0 l0_0.length c0_0) := (blk_cell BK101.out 0).trans rfl; have hfz23_0 := blk_frozen BK101.out 0) | ((with_reducible refine gate_callee (f := 59) rfl ?_); refine goesL_ (some 30) rfl rfl Try.func59 (by kernel_rfl) rfl #[.agg #[.slice A0_0 l0_0.length c0_0]] rfl (by (try simp only [List.map_toArray, List.map_cons, List.map_nil]); first | done | rfl | (simp only [List.length_drop, List.length_take]; rfl)) ?_; (with_reducible refine (laws_toTasks.calls k _ _ l0_0 t114 _ ?side1 ?side2 A9.out).mono ?_); (case side1 => exact Kd.C_below HR0_0.out (by repeat (first | (with_reducible first | exact HB.out | apply below_alloc | apply pw_below_drewN | apply below_drew1 | refine below_set ?_ GE101.out | refine below_set ?_ GE113.out) | exact HB.out))); (case side2 => exact HC0_0.out); rintro e w24 ⟨v115, rfl, ho0, hb⟩; refine ⟨_, rfl, ?_⟩; have n0_ := Aside0.mk (Kd.R_elder' (by (with_reducible repeat first | apply qc32_4 | apply qc32_5 | apply qc32_6); exact (Kd.R_mono (Kd.R_far (p := ⟨gb113, 0, none⟩) (Kd.R_types HO105.out BK113.out (by decide)) (fun _ hk => hk.2) (.slice Ao20 t106.length co20)) (fun _ h_ => h_.1))) (Kd.R_base ho0) hb); have n1_ := Aside0.mk (Kd.R_elder' (by (with_reducible repeat first | apply qc32_4 | apply qc32_5 | apply qc32_6); exact (Kd.R_mono (Kd.R_far (p := ⟨gb113, 0, none⟩) (Kd.R_types HO108.out BK113.out (by decide)) (fun _ hk => hk.2) (.slice Ao20 t106.length co20)) (fun _ h_ => h_.1))) (Kd.R_base ho0) hb); have n2_ := Aside0.mk (Kd.R_elder' (by (with_reducible repeat first | apply qc32_4 | apply qc32_5 | apply qc32_6); exact (Kd.R_mono (Kd.R_far (p := ⟨gb113, 0, none⟩) (Kd.R_types HO111.out BK113.out (by decide)) (fun _ hk => hk.2) (.slice Ao20 t106.length co20)) (fun _ h_ => h_.1))) (Kd.R_base ho0) hb); have n3_ := Aside0.mk (Kd.R_lower (Kd.R_new' (Kd.R_new' (Kd.R_new' ho0 (Kd.R_lt (by (with_reducible repeat first | apply qc32_4 | apply qc32_5 | apply qc32_6); exact (Kd.R_mono (Kd.R_far (p := ⟨gb113, 0, none⟩) (Kd.R_types HO105.out BK113.out (by decide)) (fun _ hk => hk.2) (.slice Ao20 t106.length co20)) (fun _ h_ => h_.1))))) (Kd.R_lt (by (with_reducible repeat first | apply qc32_4 | apply qc32_5 | apply qc32_6); exact (Kd.R_mono (Kd.R_far (p := ⟨gb113, 0, none⟩) (Kd.R_types HO108.out BK113.out (by decide)) (fun _ hk => hk.2) (.slice Ao20 t106.length co20)) (fun _ h_ => h_.1))))) (Kd.R_lt (by (with_reducible repeat first | apply qc32_4 | apply qc32_5 | apply qc32_6); exact (Kd.R_mono (Kd.R_far (p := ⟨gb113, 0, none⟩) (Kd.R_types HO111.out BK113.out (by decide)) (fun _ hk => hk.2) (.slice Ao20 t106.length co20)) (fun _ h_ => h_.1))))) (below_size (by repeat (first | (with_reducible first | exact HB.out | apply below_alloc | apply pw_below_drewN | apply below_drew1 | refine below_set ?_ GE101.out | refine below_set ?_ GE113.out) | exact HB.out)))); have n4_ := Aside0.mk (blk_below (g := gb101) (o := .cells #[.slice A0_0 l0_0.length c0_0] 56 (0, 0)) (by (with_reducible repeat first | apply qc32_7 | apply qc32_8 | apply qc32_9); refine blk_far ?_ NB101_113.out _; (with_reducible repeat first | apply qc32_7 | apply qc32_8 | apply qc32_9); exact BK101.out) hb); have n5_ := Aside0.mk (blk_below (g := gb113) (o := .cells #[.slice Ao20 t106.length co20] 34 (0, 0)) (by (with_reducible repeat first | apply qc32_7 | apply qc32_8 | apply qc32_9); refine blk_put (cs := #[.slice none 0 0]) ?_ 0 _ rfl; (with_reducible repeat first | apply qc32_7 | apply qc32_8 | apply qc32_9); exact BK113.out) hb); have n6_ := Aside0.mk (below_step (by repeat (first | (with_reducible first | exact HB.out | apply below_alloc | apply pw_below_drewN | apply below_drew1 | refine below_set ?_ GE101.out | refine below_set ?_ GE113.out) | exact HB.out)) hb); clear HO105; clear HO108; clear HO111; clear BK101; clear BK113; clear HB; have HO105 := n0_; have HO108 := n1_; have HO111 := n2_; have HO116 := n3_; have BK101 := n4_; have BK113 := n5_; have HB := n6_; clear n0_ n1_ n2_ n3_ n4_ n5_ n6_; (try clear hb); (try clear hb2); (try clear hk); (try clear hi); (try clear ho0)) | ((with_reducible refine gate_dst (N := 7) rfl ?_); refine box_event ?hg (N := 7) ?hd (cs := #[.slice none 0 0]) (t := 34) ?hr ?_; (case hd => rfl); (case hg => rfl); (case hr => first | (go_simp; done) | (go_simp; rfl)); intro gb117 hg w25 hbox hb; have n0_ := Aside0.mk (Kd.R_below (by (with_reducible repeat first | apply qc32_4 | apply qc32_5 | apply qc32_6); exact HO105.out) hb); have n1_ := Aside0.mk (Kd.R_below (by (with_reducible repeat first | apply qc32_4 | apply qc32_5 | apply qc32_6); exact HO108.out) hb); have n2_ := Aside0.mk (Kd.R_below (by (with_reducible repeat first | apply qc32_4 | apply qc32_5 | apply qc32_6); exact HO111.out) hb); have n3_ := Aside0.mk (Kd.R_below (by (with_reducible repeat first | apply qc32_4 | apply qc32_5 | apply qc32_6); exact HO116.out) hb); have n4_ := Aside0.mk (blk_below (g := gb101) (o := .cells #[.slice A0_0 l0_0.length c0_0] 56 (0, 0)) (by (with_reducible repeat first | apply qc32_7 | apply qc32_8 | apply qc32_9); exact BK101.out) hb); have n5_ := Aside0.mk (blk_below (g := gb113) (o := .cells #[.slice Ao20 t106.length co20] 34 (0, 0)) (by (with_reducible repeat first | apply qc32_7 | apply qc32_8 | apply qc32_9); exact BK113.out) hb); have n6_ := Aside0.mk (below_step (by repeat (first | (with_reducible first | exact HB.out | apply below_alloc | apply pw_below_drewN | apply below_drew1 | refine below_set ?_ GE101.out | refine below_set ?_ GE113.out) | exact HB.out)) hb); have n7_ := Aside0.mk (hbox); have n8_ := Aside0.mk ((by rw [hg]; exact (below_size (by repeat (first | (with_reducible first | exact HB.out | apply below_alloc | apply pw_below_drewN | apply below_drew1 | refine below_set ?_ GE101.out | refine below_set ?_ GE113.out) | exact HB.out))) : w.heap.size ≤ gb117)); have n9_ := Aside0.mk ((by rw [hg]; exact (below_size (by repeat (first | (with_reducible first | exact HB.out | apply below_alloc | apply pw_below_drewN | apply below_drew1 | refine below_set ?_ GE101.out | refine below_set ?_ GE113.out) | exact HB.out))) : w.heap.size ≤ gb117)); have n10_ := Aside0.mk ((by rw [hg]; exact Nat.ne_of_lt (blk_lt (g := gb101) (o := .cells #[.slice A0_0 l0_0.length c0_0] 56 (0, 0)) (by (with_reducible repeat first | apply qc32_7 | apply qc32_8 | apply qc32_9); exact BK101.out)) : gb101 ≠ gb117)); have n11_ := Aside0.mk ((by rw [hg]; exact Nat.ne_of_gt (blk_lt (g := gb101) (o := .cells #[.slice A0_0 l0_0.length c0_0] 56 (0, 0)) (by (with_reducible repeat first | apply qc32_7 | apply qc32_8 | apply qc32_9); exact BK101.out)) : gb117 ≠ gb101)); have n12_ := Aside0.mk ((by rw [hg]; exact Nat.ne_of_lt (blk_lt (g := gb113) (o := .cells #[.slice Ao20 t106.length co20] 34 (0, 0)) (by (with_reducible repeat first | apply qc32_7 | apply qc32_8 | apply qc32_9); exact BK113.out)) : gb113 ≠ gb117)); have n13_ := Aside0.mk ((by rw [hg]; exact Nat.ne_of_gt (blk_lt (g := gb113) (o := .cells #[.slice Ao20 t106.length co20] 34 (0, 0)) (by (with_reducible repeat first | apply qc32_7 | apply qc32_8 | apply qc32_9); exact BK113.out)) : gb117 ≠ gb113)); clear HO105; clear HO108; clear HO111; clear HO116; clear BK101; clear BK113; clear HB; have HO105 := n0_; have HO108 := n1_; have HO111 := n2_; have HO116 := n3_; have BK101 := n4_; have BK113 := n5_; have HB := n6_; have BK117 := n7_; have GW117 := n8_; have GE117 := n9_; have NB101_117 := n10_; have NB117_101 := n11_; have NB113_117 := n12_; have NB117_113 := n13_; clear n0_ n1_ n2_ n3_ n4_ n5_ n6_ n7_ n8_ n9_ n10_ n11_ n12_ n13_; clear hb hbox hg; obtain ⟨Ao26, co26, eo26⟩ := Kd.R_slice HO116.out; subst eo26; have hnb27 := NB117_101.out; have hnc27 := NB101_117.out; have hnb28 := NB117_113.out; have hnc28 := NB113_117.out; have hcz29_0 : w25.cell? ⟨gb117, 0, none⟩ = some (.slice none 0 0) := (blk_cell BK117.out 0).trans rfl; have hfz29_0 := blk_frozen BK117.out 0) | ((with_reducible refine gate_callee (f := 60) rfl ?_); refine goesL_ (some 33) rfl rfl Try.func60 (by kernel_rfl) rfl #[.agg #[.slice Ao26 t114.length co26]] rfl (by (try simp only [List.map_toArray, List.map_cons, List.map_nil]); first | done | rfl | (simp only [List.length_drop, List.length_take]; rfl)) ?_; (with_reducible refine (impl_SortTasks.calls k _ _ t114 t118 t121 t124 _ ?side1 ?side2 A10.out).mono ?_); (case side1 => refine (Kd.R_reads' (e := 2) (base := w.heap.size) (ok := fun k_ => (((True ∧ some k_ ≠ (.slice Ao17 t103.length co17 : Value).ownBlock) ∧ some k_ ≠ (.slice Ao20 t106.length co20 : Value).ownBlock) ∧ some k_ ≠ (v110 : Value).ownBlock)) (n := t114.length) (c := co26) ?_).2.2; exact (by (with_reducible repeat first | apply qc32_4 | apply qc32_5 | apply qc32_6); exact (Kd.R_mono (Kd.R_far (p := ⟨gb117, 0, none⟩) (Kd.R_types HO116.out BK117.out (by decide)) (fun _ hk => hk.2) (.slice Ao26 t114.length co26)) (fun _ h_ => h_.1)))); (case side2 => exact (Kd.R_reads' HO116.out).2.1); rintro e w30 ⟨v119, v122, rfl, ho0, ho1, hb⟩; refine ⟨_, rfl, ?_⟩; have n0_ := Aside0.mk (Kd.R_mono (Kd.R_told (Kd.R_told (Kd.R_old (by (with_reducible repeat first | apply qc32_4 | apply qc32_5 | apply qc32_6); exact (Kd.R_mono (Kd.R_far (p := ⟨gb117, 0, none⟩) (Kd.R_types HO105.out BK117.out (by decide)) (fun _ hk => hk.2) (.slice Ao26 t114.length co26)) (fun _ h_ => h_.1))) hb) (Kd.R_base ho0)) (Kd.R_base ho1)) (fun _ h_ => h_.1)); have n1_ := Aside0.mk (Kd.R_mono (Kd.R_told (Kd.R_told (Kd.R_old (by (with_reducible repeat first | apply qc32_4 | apply qc32_5 | apply qc32_6); exact (Kd.R_mono (Kd.R_far (p := ⟨gb117, 0, none⟩) (Kd.R_types HO108.out BK117.out (by decide)) (fun _ hk => hk.2) (.slice Ao26 t114.length co26)) (fun _ h_ => h_.1))) hb) (Kd.R_base ho0)) (Kd.R_base ho1)) (fun _ h_ => h_.1)); have n2_ := Aside0.mk (Kd.R_mono (Kd.R_told (Kd.R_told (Kd.R_old (by (with_reducible repeat first | apply qc32_4 | apply qc32_5 | apply qc32_6); exact (Kd.R_mono (Kd.R_far (p := ⟨gb117, 0, none⟩) (Kd.R_types HO111.out BK117.out (by decide)) (fun _ hk => hk.2) (.slice Ao26 t114.length co26)) (fun _ h_ => h_.1))) hb) (Kd.R_base ho0)) (Kd.R_base ho1)) (fun _ h_ => h_.1)); have n3_ := Aside0.mk (Kd.R_mono (Kd.R_told (Kd.R_told (Kd.R_old (by (with_reducible repeat first | apply qc32_4 | apply qc32_5 | apply qc32_6); exact (Kd.R_mono (Kd.R_far (p := ⟨gb117, 0, none⟩) (Kd.R_types HO116.out BK117.out (by decide)) (fun _ hk => hk.2) (.slice Ao26 t114.length co26)) (fun _ h_ => h_.1))) hb) (Kd.R_base ho0)) (Kd.R_base ho1)) (fun _ h_ => h_.1)); have n4_ := Aside0.mk (Kd.R_lower (Kd.R_new' (Kd.R_new' (Kd.R_new' (Kd.R_new' ho0 (Kd.R_lt (by (with_reducible repeat first | apply qc32_4 | apply qc32_5 | apply qc32_6); exact (Kd.R_mono (Kd.R_far (p := ⟨gb117, 0, none⟩) (Kd.R_types HO105.out BK117.out (by decide)) (fun _ hk => hk.2) (.slice Ao26 t114.length co26)) (fun _ h_ => h_.1))))) (Kd.R_lt (by (with_reducible repeat first | apply qc32_4 | apply qc32_5 | apply qc32_6); exact (Kd.R_mono (Kd.R_far (p := ⟨gb117, 0, none⟩) (Kd.R_types HO108.out BK117.out (by decide)) (fun _ hk => hk.2) (.slice Ao26 t114.length co26)) (fun _ h_ => h_.1))))) (Kd.R_lt (by (with_reducible repeat first | apply qc32_4 | apply qc32_5 | apply qc32_6); exact (Kd.R_mono (Kd.R_far (p := ⟨gb117, 0, none⟩) (Kd.R_types HO111.out BK117.out (by decide)) (fun _ hk => hk.2) (.slice Ao26 t114.length co26)) (fun _ h_ => h_.1))))) (Kd.R_lt (by (with_reducible repeat first | apply qc32_4 | apply qc32_5 | apply qc32_6); exact (Kd.R_mono (Kd.R_far (p := ⟨gb117, 0, none⟩) (Kd.R_types HO116.out BK117.out (by decide)) (fun _ hk => hk.2) (.slice Ao26 t114.length co26)) (fun _ h_ => h_.1))))) (below_size (by repeat (first | (with_reducible first | exact HB.out | apply below_alloc | apply pw_below_drewN | apply below_drew1 | refine below_set ?_ GE101.out | refine below_set ?_ GE113.out | refine below_set ?_ GE117.out) | exact HB.out)))); have n5_ := Aside0.mk (Kd.R_lower (Kd.R_new' (Kd.R_new' (Kd.R_new' (Kd.R_new' ho1 (Kd.R_lt (by (with_reducible repeat first | apply qc32_4 | apply qc32_5 | apply qc32_6); exact (Kd.R_mono (Kd.R_far (p := ⟨gb117, 0, none⟩) (Kd.R_types HO105.out BK117.out (by decide)) (fun _ hk => hk.2) (.slice Ao26 t114.length co26)) (fun _ h_ => h_.1))))) (Kd.R_lt (by (with_reducible repeat first | apply qc32_4 | apply qc32_5 | apply qc32_6); exact (Kd.R_mono (Kd.R_far (p := ⟨gb117, 0, none⟩) (Kd.R_types HO108.out BK117.out (by decide)) (fun _ hk => hk.2) (.slice Ao26 t114.length co26)) (fun _ h_ => h_.1))))) (Kd.R_lt (by (with_reducible repeat first | apply qc32_4 | apply qc32_5 | apply qc32_6); exact (Kd.R_mono (Kd.R_far (p := ⟨gb117, 0, none⟩) (Kd.R_types HO111.out BK117.out (by decide)) (fun _ hk => hk.2) (.slice Ao26 t114.length co26)) (fun _ h_ => h_.1))))) (Kd.R_lt (by (with_reducible repeat first | apply qc32_4 | apply qc32_5 | apply qc32_6); exact (Kd.R_mono (Kd.R_far (p := ⟨gb117, 0, none⟩) (Kd.R_types HO116.out BK117.out (by decide)) (fun _ hk => hk.2) (.slice Ao26 t114.length co26)) (fun _ h_ => h_.1))))) (below_size (by repeat (first | (with_reducible first | exact HB.out | apply below_alloc | apply pw_below_drewN | apply below_drew1 | refine below_set ?_ GE101.out | refine below_set ?_ GE113.out | refine below_set ?_ GE117.out) | exact HB.out)))); have n6_ := Aside0.mk (blk_below (g := gb101) (o := .cells #[.slice A0_0 l0_0.length c0_0] 56 (0, 0)) (by (with_reducible repeat first | apply qc32_7 | apply qc32_8 | apply qc32_9); refine blk_far ?_ NB101_117.out _; (with_reducible repeat first | apply qc32_7 | apply qc32_8 | apply qc32_9); exact BK101.out) hb); have n7_ := Aside0.mk (blk_below (g := gb113) (o := .cells #[.slice Ao20 t106.length co20] 34 (0, 0)) (by (with_reducible repeat first | apply qc32_7 | apply qc32_8 | apply qc32_9); refine blk_far ?_ NB113_117.out _; (with_reducible repeat first | apply qc32_7 | apply qc32_8 | apply qc32_9); exact BK113.out) hb); have n8_ := Aside0.mk (blk_below (g := gb117) (o := .cells #[.slice Ao26 t114.length co26] 34 (0, 0)) (by (with_reducible repeat first | apply qc32_7 | apply qc32_8 | apply qc32_9); refine blk_put (cs := #[.slice none 0 0]) ?_ 0 _ rfl; (with_reducible repeat first | apply qc32_7 | apply qc32_8 | apply qc32_9); exact BK117.out) hb); have n9_ := Aside0.mk (below_step (by repeat (first | (with_reducible first | exact HB.out | apply below_alloc | apply pw_below_drewN | apply below_drew1 | refine below_set ?_ GE101.out | refine below_set ?_ GE113.out | refine below_set ?_ GE117.out) | exact HB.out)) hb); clear HO105; clear HO108; clear HO111; clear HO116; clear BK101; clear BK113; clear BK117; clear HB; have HO105 := n0_; have HO108 := n1_; have HO111 := n2_; have HO116 := n3_; have HO120 := n4_; have HO123 := n5_; have BK101 := n6_; have BK113 := n7_; have BK117 := n8_; have HB := n9_; clear n0_ n1_ n2_ n3_ n4_ n5_ n6_ n7_ n8_ n9_; (try clear hb); (try clear hb2); (try clear hk); (try clear hi); (try clear ho0); (try clear ho1)) | ((with_reducible refine gate_dst (N := 8) rfl ?_); refine box_event ?hg (N := 8) ?hd (cs := #[.slice none 0 0]) (t := 34) ?hr ?_; (case hd => rfl); (case hg => rfl); (case hr => first | (go_simp; done) | (go_simp; rfl)); intro gb125 hg w31 hbox hb; have n0_ := Aside0.mk (Kd.R_below (by (with_reducible repeat first | apply qc32_4 | apply qc32_5 | apply qc32_6); exact HO105.out) hb); have n1_ := Aside0.mk (Kd.R_below (by (with_reducible repeat first | apply qc32_4 | apply qc32_5 | apply qc32_6); exact HO108.out) hb); have n2_ := Aside0.mk (Kd.R_below (by (with_reducible repeat first | apply qc32_4 | apply qc32_5 | apply qc32_6); exact HO111.out) hb); have n3_ := Aside0.mk (Kd.R_below (by (with_reducible repeat first | apply qc32_4 | apply qc32_5 | apply qc32_6); exact HO116.out) hb); have n4_ := Aside0.mk (Kd.R_below (by (with_reducible repeat first | apply qc32_4 | apply qc32_5 | apply qc32_6); exact HO120.out) hb); have n5_ := Aside0.mk (Kd.R_below (by (with_reducible repeat first | apply qc32_4 | apply qc32_5 | apply qc32_6); exact HO123.out) hb); have n6_ := Aside0.mk (blk_below (g := gb101) (o := .cells #[.slice A0_0 l0_0.length c0_0] 56 (0, 0)) (by (with_reducible repeat first | apply qc32_7 | apply qc32_8 | apply qc32_9); exact BK101.out) hb); have n7_ := Aside0.mk (blk_below (g := gb113) (o := .cells #[.slice Ao20 t106.length co20] 34 (0, 0)) (by (with_reducible repeat first | apply qc32_7 | apply qc32_8 | apply qc32_9); exact BK113.out) hb); have n8_ := Aside0.mk (blk_below (g := gb117) (o := .cells #[.slice Ao26 t114.length co26] 34 (0, 0)) (by (with_reducible repeat first | apply qc32_7 | apply qc32_8 | apply qc32_9); exact BK117.out) hb); have n9_ := Aside0.mk (below_step (by repeat (first | (with_reducible first | exact HB.out | apply below_alloc | apply pw_below_drewN | apply below_drew1 | refine below_set ?_ GE101.out | refine below_set ?_ GE113.out | refine below_set ?_ GE117.out) | exact HB.out)) hb); have n10_ := Aside0.mk (hbox); have n11_ := Aside0.mk ((by rw [hg]; exact (below_size (by repeat (first | (with_reducible first | exact HB.out | apply below_alloc | apply pw_below_drewN | apply below_drew1 | refine below_set ?_ GE101.out | refine below_set ?_ GE113.out | refine below_set ?_ GE117.out) | exact HB.out))) : w.heap.size ≤ gb125)); have n12_ := Aside0.mk ((by rw [hg]; exact (below_size (by repeat (first | (with_reducible first | exact HB.out | apply below_alloc | apply pw_below_drewN | apply below_drew1 | refine below_set ?_ GE101.out | refine below_set ?_ GE113.out | refine below_set ?_ GE117.out) | exact HB.out))) : w.heap.size ≤ gb125)); have n13_ := Aside0.mk ((by rw [hg]; exact Nat.ne_of_lt (blk_lt (g := gb101) (o := .cells #[.slice A0_0 l0_0.length c0_0] 56 (0, 0)) (by (with_reducible repeat first | apply qc32_7 | apply qc32_8 | apply qc32_9); exact BK101.out)) : gb101 ≠ gb125)); have n14_ := Aside0.mk ((by rw [hg]; exact Nat.ne_of_gt (blk_lt (g := gb101) (o := .cells #[.slice A0_0 l0_0.length c0_0] 56 (0, 0)) (by (with_reducible repeat first | apply qc32_7 | apply qc32_8 | apply qc32_9); exact BK101.out)) : gb125 ≠ gb101)); have n15_ := Aside0.mk ((by rw [hg]; exact Nat.ne_of_lt (blk_lt (g := gb113) (o := .cells #[.slice Ao20 t106.length co20] 34 (0, 0)) (by (with_reducible repeat first | apply qc32_7 | apply qc32_8 | apply qc32_9); exact BK113.out)) : gb113 ≠ gb125)); have n16_ := Aside0.mk ((by rw [hg]; exact Nat.ne_of_gt (blk_lt (g := gb113) (o := .cells #[.slice Ao20 t106.length co20] 34 (0, 0)) (by (with_reducible repeat first | apply qc32_7 | apply qc32_8 | apply qc32_9); exact BK113.out)) : gb125 ≠ gb113)); have n17_ := Aside0.mk ((by rw [hg]; exact Nat.ne_of_lt (blk_lt (g := gb117) (o := .cells #[.slice Ao26 t114.length co26] 34 (0, 0)) (by (with_reducible repeat first | apply qc32_7 | apply qc32_8 | apply qc32_9); exact BK117.out)) : gb117 ≠ gb125)); have n18_ := Aside0.mk ((by rw [hg]; exact Nat.ne_of_gt (blk_lt (g := gb117) (o := .cells #[.slice Ao26 t114.length co26] 34 (0, 0)) (by (with_reducible repeat first | apply qc32_7 | apply qc32_8 | apply qc32_9); exact BK117.out)) : gb125 ≠ gb117)); clear HO105; clear HO108; clear HO111; clear HO116; clear HO120; clear HO123; clear BK101; clear BK113; clear BK117; clear HB; have HO105 := n0_; have HO108 := n1_; have HO111 := n2_; have HO116 := n3_; have HO120 := n4_; have HO123 := n5_; have BK101 := n6_; have BK113 := n7_; have BK117 := n8_; have HB := n9_; have BK125 := n10_; have GW125 := n11_; have GE125 := n12_; have NB101_125 := n13_; have NB125_101 := n14_; have NB113_125 := n15_; have NB125_113 := n16_; have NB117_125 := n17_; have NB125_117 := n18_; clear n0_ n1_ n2_ n3_ n4_ n5_ n6_ n7_ n8_ n9_ n10_ n11_ n12_ n13_ n14_ n15_ n16_ n17_ n18_; clear hb hbox hg; obtain ⟨Ao32, co32, eo32⟩ := Kd.R_slice HO120.out; subst eo32; have hnb33 := NB125_101.out; have hnc33 := NB101_125.out; have hnb34 := NB125_113.out; have hnc34 := NB113_125.out; have hnb35 := NB125_117.out; have hnc35 := NB117_125.out; have hcz36_0 : w31.cell? ⟨gb125, 0, none⟩ = some (.slice none 0 0) := (blk_cell BK125.out 0).trans rfl; have hfz36_0 := blk_frozen BK125.out 0))
  (try simp only [Act.put, qc32_1, qc32_2, qc32_3])
  go_cut [51] (fun v51 wc => ∃ (kq : Nat) (x51_10 : Bool), v51 = .bool x51_10 ∧ Aside0 (laws_FnExactSortTasks.j0 kq t109 t112 t121 t124 x51_10 l0_0 t106 t114 t118 = some r) ∧ Aside0 (kq ≤ k) ∧ Aside0 (Kd.R (Kd.int .i64) 2 wc w.heap.size (fun k_ => some k_ ≠ (v122 : Value).ownBlock ∧ some k_ ≠ ((.slice Ao20 t106.length co20) : Value).ownBlock ∧ some k_ ≠ ((.slice Ao26 t114.length co26) : Value).ownBlock ∧ some k_ ≠ ((.slice Ao32 t118.length co32) : Value).ownBlock) v110 t109) ∧ Aside0 (Kd.R (Kd.int .i64) 2 wc w.heap.size (fun k_ => some k_ ≠ (v110 : Value).ownBlock ∧ some k_ ≠ ((.slice Ao20 t106.length co20) : Value).ownBlock ∧ some k_ ≠ ((.slice Ao26 t114.length co26) : Value).ownBlock ∧ some k_ ≠ ((.slice Ao32 t118.length co32) : Value).ownBlock) v122 t121) ∧ Aside0 (Kd.R (Kd.int .i64) 2 wc w.heap.size (fun k_ => some k_ ≠ (v110 : Value).ownBlock ∧ some k_ ≠ (v122 : Value).ownBlock ∧ some k_ ≠ ((.slice Ao26 t114.length co26) : Value).ownBlock ∧ some k_ ≠ ((.slice Ao32 t118.length co32) : Value).ownBlock) (.slice Ao20 t106.length co20) t106) ∧ Aside0 (Kd.R (Kd.int .i64) 2 wc w.heap.size (fun k_ => some k_ ≠ (v110 : Value).ownBlock ∧ some k_ ≠ (v122 : Value).ownBlock ∧ some k_ ≠ ((.slice Ao20 t106.length co20) : Value).ownBlock ∧ some k_ ≠ ((.slice Ao32 t118.length co32) : Value).ownBlock) (.slice Ao26 t114.length co26) t114) ∧ Aside0 (Kd.R (Kd.int .i64) 2 wc w.heap.size (fun k_ => some k_ ≠ (v110 : Value).ownBlock ∧ some k_ ≠ (v122 : Value).ownBlock ∧ some k_ ≠ ((.slice Ao20 t106.length co20) : Value).ownBlock ∧ some k_ ≠ ((.slice Ao26 t114.length co26) : Value).ownBlock) (.slice Ao32 t118.length co32) t118) ∧ Aside0 (wc.heap[gb101]? = some (.cells #[(.slice A0_0 l0_0.length c0_0)] 56 (0, 0))) ∧ Aside0 (wc.heap[gb113]? = some (.cells #[(.slice Ao20 t106.length co20)] 34 (0, 0))) ∧ Aside0 (wc.heap[gb117]? = some (.cells #[(.slice Ao26 t114.length co26)] 34 (0, 0))) ∧ Aside0 (wc.heap[gb125]? = some (.cells #[(.slice Ao32 t118.length co32)] 34 (0, 0))) ∧ Aside0 (Below w.heap.size w wc))
  case first =>
   have H := HC11.out
   clear HC11
   replace H := Option.bind_eq_some_iff.mp H
   obtain ⟨t126, A370, H⟩ := H
   replace H : (if t126 = true then ((laws_eqInt64S.f k t121 t109).bind fun t127 => (if t127 = true then (laws_FnExactSortTasks.j0 k t109 t112 t121 t124 (t124 != t112) l0_0 t106 t114 t118) else (laws_FnExactSortTasks.j0 k t109 t112 t121 t124 true l0_0 t106 t114 t118))) else (laws_FnExactSortTasks.j0 k t109 t112 t121 t124 true l0_0 t106 t114 t118)) = some r := H
   have A37 := Aside0.mk A370
   clear A370
   by_cases c38 : t126 = true
   ·
    subst c38
    have H1 : ((laws_eqInt64S.f k t121 t109).bind fun t127 => (if t127 = true then (laws_FnExactSortTasks.j0 k t109 t112 t121 t124 (t124 != t112) l0_0 t106 t114 t118) else (laws_FnExactSortTasks.j0 k t109 t112 t121 t124 true l0_0 t106 t114 t118))) = some r := by rw [if_pos rfl] at H; exact H
    clear H
    have H := H1
    clear H1
    replace H := Option.bind_eq_some_iff.mp H
    obtain ⟨t127, A390, H⟩ := H
    replace H : (if t127 = true then (laws_FnExactSortTasks.j0 k t109 t112 t121 t124 (t124 != t112) l0_0 t106 t114 t118) else (laws_FnExactSortTasks.j0 k t109 t112 t121 t124 true l0_0 t106 t114 t118)) = some r := H
    have A39 := Aside0.mk A390
    clear A390
    by_cases c40 : t127 = true
    ·
     subst c40
     have H1 : (laws_FnExactSortTasks.j0 k t109 t112 t121 t124 (t124 != t112) l0_0 t106 t114 t118) = some r := by rw [if_pos rfl] at H; exact H
     clear H
     have H := H1
     clear H1
     have H' := Aside0.mk H
     clear H
     have hnb41 := NB125_101.out
     have hnc41 := NB101_125.out
     have hnb42 := NB125_113.out
     have hnc42 := NB113_125.out
     have hnb43 := NB125_117.out
     have hnc43 := NB117_125.out
     have hcz44_0 : w31.cell? ⟨gb125, 0, none⟩ = some (.slice none 0 0) := (blk_cell BK125.out 0).trans rfl
     have hfz44_0 := blk_frozen BK125.out 0
     have hnb45 := NB113_101.out
     have hnc45 := NB101_113.out
     have hnb46 := NB113_117.out
     have hnc46 := NB117_113.out
     have hcz47_0 : w31.cell? ⟨gb113, 0, none⟩ = some (.slice Ao20 t106.length co20) := (blk_cell BK113.out 0).trans rfl
     have hfz47_0 := blk_frozen BK113.out 0
     go_wp2_with (first | ((with_reducible refine gate_callee (f := 61) rfl ?_); refine goesL_ (some 39) rfl rfl Try.func61 (by kernel_rfl) rfl #[.agg #[.slice Ao32 t118.length co32], .agg #[.slice Ao20 t106.length co20]] rfl (by (try simp only [List.map_toArray, List.map_cons, List.map_nil]); first | done | rfl | (simp only [List.length_drop, List.length_take]; rfl)) ?_; (with_reducible refine (laws_eqTasks.calls k _ _ t118 _ _ t106 true _ ?side1 ?side2 ?side3 ?side4 A37.out).mono ?_); (case side1 => refine (Kd.R_reads' (e := 2) (base := w.heap.size) (ok := fun k_ => ((((some k_ ≠ (v122 : Value).ownBlock ∧ some k_ ≠ (.slice Ao17 t103.length co17 : Value).ownBlock) ∧ some k_ ≠ (.slice Ao20 t106.length co20 : Value).ownBlock) ∧ some k_ ≠ (v110 : Value).ownBlock) ∧ some k_ ≠ (.slice Ao26 t114.length co26 : Value).ownBlock)) (n := t118.length) (c := co32) ?_).2.2; exact (by (with_reducible repeat first | apply qc32_4 | apply qc32_5 | apply qc32_6); exact (Kd.R_mono (Kd.R_far (p := ⟨gb125, 0, none⟩) (Kd.R_types HO120.out BK125.out (by decide)) (fun _ hk => hk.2) (.slice Ao32 t118.length co32)) (fun _ h_ => h_.1)))); (case side2 => exact (Kd.R_reads' HO120.out).2.1); (case side3 => refine (Kd.R_reads' (e := 2) (base := w.heap.size) (ok := fun k_ => ((((some k_ ≠ (v110 : Value).ownBlock ∧ some k_ ≠ (.slice Ao17 t103.length co17 : Value).ownBlock) ∧ some k_ ≠ (.slice Ao26 t114.length co26 : Value).ownBlock) ∧ some k_ ≠ (.slice Ao32 t118.length co32 : Value).ownBlock) ∧ some k_ ≠ (v122 : Value).ownBlock)) (n := t106.length) (c := co20) ?_).2.2; exact (by (with_reducible repeat first | apply qc32_4 | apply qc32_5 | apply qc32_6); exact (Kd.R_mono (Kd.R_far (p := ⟨gb125, 0, none⟩) (Kd.R_types HO108.out BK125.out (by decide)) (fun _ hk => hk.2) (.slice Ao32 t118.length co32)) (fun _ h_ => h_.1)))); (case side4 => exact (Kd.R_reads' HO108.out).2.1); rintro e w48 ⟨rfl, hb⟩; refine ⟨_, rfl, ?_⟩; have n0_ := Aside0.mk (Kd.R_below (by (with_reducible repeat first | apply qc32_4 | apply qc32_5 | apply qc32_6); exact (Kd.R_mono (Kd.R_far (p := ⟨gb125, 0, none⟩) (Kd.R_types HO105.out BK125.out (by decide)) (fun _ hk => hk.2) (.slice Ao32 t118.length co32)) (fun _ h_ => h_.1))) hb); have n1_ := Aside0.mk (Kd.R_below (by (with_reducible repeat first | apply qc32_4 | apply qc32_5 | apply qc32_6); exact (Kd.R_mono (Kd.R_far (p := ⟨gb125, 0, none⟩) (Kd.R_types HO108.out BK125.out (by decide)) (fun _ hk => hk.2) (.slice Ao32 t118.length co32)) (fun _ h_ => h_.1))) hb); have n2_ := Aside0.mk (Kd.R_below (by (with_reducible repeat first | apply qc32_4 | apply qc32_5 | apply qc32_6); exact (Kd.R_mono (Kd.R_far (p := ⟨gb125, 0, none⟩) (Kd.R_types HO111.out BK125.out (by decide)) (fun _ hk => hk.2) (.slice Ao32 t118.length co32)) (fun _ h_ => h_.1))) hb); have n3_ := Aside0.mk (Kd.R_below (by (with_reducible repeat first | apply qc32_4 | apply qc32_5 | apply qc32_6); exact (Kd.R_mono (Kd.R_far (p := ⟨gb125, 0, none⟩) (Kd.R_types HO116.out BK125.out (by decide)) (fun _ hk => hk.2) (.slice Ao32 t118.length co32)) (fun _ h_ => h_.1))) hb); have n4_ := Aside0.mk (Kd.R_below (by (with_reducible repeat first | apply qc32_4 | apply qc32_5 | apply qc32_6); exact (Kd.R_mono (Kd.R_far (p := ⟨gb125, 0, none⟩) (Kd.R_types HO120.out BK125.out (by decide)) (fun _ hk => hk.2) (.slice Ao32 t118.length co32)) (fun _ h_ => h_.1))) hb); have n5_ := Aside0.mk (Kd.R_below (by (with_reducible repeat first | apply qc32_4 | apply qc32_5 | apply qc32_6); exact (Kd.R_mono (Kd.R_far (p := ⟨gb125, 0, none⟩) (Kd.R_types HO123.out BK125.out (by decide)) (fun _ hk => hk.2) (.slice Ao32 t118.length co32)) (fun _ h_ => h_.1))) hb); have n6_ := Aside0.mk (blk_below (g := gb101) (o := .cells #[.slice A0_0 l0_0.length c0_0] 56 (0, 0)) (by (with_reducible repeat first | apply qc32_7 | apply qc32_8 | apply qc32_9); refine blk_far ?_ NB101_125.out _; (with_reducible repeat first | apply qc32_7 | apply qc32_8 | apply qc32_9); exact BK101.out) hb); have n7_ := Aside0.mk (blk_below (g := gb113) (o := .cells #[.slice Ao20 t106.length co20] 34 (0, 0)) (by (with_reducible repeat first | apply qc32_7 | apply qc32_8 | apply qc32_9); refine blk_far ?_ NB113_125.out _; (with_reducible repeat first | apply qc32_7 | apply qc32_8 | apply qc32_9); exact BK113.out) hb); have n8_ := Aside0.mk (blk_below (g := gb117) (o := .cells #[.slice Ao26 t114.length co26] 34 (0, 0)) (by (with_reducible repeat first | apply qc32_7 | apply qc32_8 | apply qc32_9); refine blk_far ?_ NB117_125.out _; (with_reducible repeat first | apply qc32_7 | apply qc32_8 | apply qc32_9); exact BK117.out) hb); have n9_ := Aside0.mk (blk_below (g := gb125) (o := .cells #[.slice Ao32 t118.length co32] 34 (0, 0)) (by (with_reducible repeat first | apply qc32_7 | apply qc32_8 | apply qc32_9); refine blk_put (cs := #[.slice none 0 0]) ?_ 0 _ rfl; (with_reducible repeat first | apply qc32_7 | apply qc32_8 | apply qc32_9); exact BK125.out) hb); have n10_ := Aside0.mk (below_step (by repeat (first | (with_reducible first | exact HB.out | apply below_alloc | apply pw_below_drewN | apply below_drew1 | refine below_set ?_ GE101.out | refine below_set ?_ GE113.out | refine below_set ?_ GE117.out | refine below_set ?_ GE125.out) | exact HB.out)) hb); clear HO105; clear HO108; clear HO111; clear HO116; clear HO120; clear HO123; clear BK101; clear BK113; clear BK117; clear BK125; clear HB; have HO105 := n0_; have HO108 := n1_; have HO111 := n2_; have HO116 := n3_; have HO120 := n4_; have HO123 := n5_; have BK101 := n6_; have BK113 := n7_; have BK117 := n8_; have BK125 := n9_; have HB := n10_; clear n0_ n1_ n2_ n3_ n4_ n5_ n6_ n7_ n8_ n9_ n10_; (try clear hb); (try clear hb2); (try clear hk); (try clear hi); obtain ⟨Ao49, co49, eo49⟩ := Kd.R_slice HO123.out; subst eo49; obtain ⟨Ao50, co50, eo50⟩ := Kd.R_slice HO111.out; subst eo50) | (go_at_call 62; (with_reducible refine (laws_eqInt64S.calls k _ _ t121 _ _ t109 true _ ?side1 ?side2 ?side3 ?side4 A39.out).mono ?_); (case side1 => repeat (first | exact (Kd.R_reads' HO123.out).2.2 | (with_reducible refine Kd.C_alloc ?_ _) | (with_reducible refine Kd.C_drewN ?_ _) | (with_reducible refine Kd.C_drew ?_))); (case side2 => exact (Kd.R_reads' HO123.out).2.1); (case side3 => repeat (first | exact (Kd.R_reads' HO111.out).2.2 | (with_reducible refine Kd.C_alloc ?_ _) | (with_reducible refine Kd.C_drewN ?_ _) | (with_reducible refine Kd.C_drew ?_))); (case side4 => exact (Kd.R_reads' HO111.out).2.1); rintro e w' ⟨rfl, ⟨nd, rfl⟩⟩))
     go_meet
     case rel => exact ⟨_, ((t124 != t112)), (by first | rfl | simp), H', ⟨by first | omega | exact Nat.le_refl _⟩, ⟨by (with_reducible repeat first | apply qc32_4 | apply qc32_5 | apply qc32_6); exact Kd.R_mono HO111.out (fun _ hk => ⟨hk.2, ⟨hk.1.1.1.1, ⟨hk.1.1.2, hk.1.2⟩⟩⟩)⟩, ⟨by (with_reducible repeat first | apply qc32_4 | apply qc32_5 | apply qc32_6); exact Kd.R_mono HO123.out (fun _ hk => ⟨hk.1.2, ⟨hk.1.1.2, ⟨hk.2, hk.1.1.1.1⟩⟩⟩)⟩, ⟨by (with_reducible repeat first | apply qc32_4 | apply qc32_5 | apply qc32_6); exact Kd.R_mono HO108.out (fun _ hk => ⟨hk.1.1.1.1, ⟨hk.2, ⟨hk.1.1.2, hk.1.2⟩⟩⟩)⟩, ⟨by (with_reducible repeat first | apply qc32_4 | apply qc32_5 | apply qc32_6); exact Kd.R_mono HO116.out (fun _ hk => ⟨hk.1.1.2, ⟨hk.2, ⟨hk.1.1.1.2, hk.1.2⟩⟩⟩)⟩, ⟨by (with_reducible repeat first | apply qc32_4 | apply qc32_5 | apply qc32_6); exact Kd.R_mono HO120.out (fun _ hk => ⟨hk.1.2, ⟨hk.1.1.1.1, ⟨hk.1.1.2, hk.2⟩⟩⟩)⟩, ⟨by (with_reducible repeat first | apply qc32_7 | apply qc32_8 | apply qc32_9); exact BK101.out⟩, ⟨by (with_reducible repeat first | apply qc32_7 | apply qc32_8 | apply qc32_9); exact BK113.out⟩, ⟨by (with_reducible repeat first | apply qc32_7 | apply qc32_8 | apply qc32_9); exact BK117.out⟩, ⟨by (with_reducible repeat first | apply qc32_7 | apply qc32_8 | apply qc32_9); exact BK125.out⟩, ⟨by repeat (first | (with_reducible first | exact HB.out | apply below_alloc | apply pw_below_drewN | apply below_drew1 | refine below_set ?_ GE101.out | refine below_set ?_ GE113.out | refine below_set ?_ GE117.out | refine below_set ?_ GE125.out) | exact HB.out)⟩⟩
    ·
     replace c40 := Bool.eq_false_iff.mpr c40
     subst c40
     have H1 : (laws_FnExactSortTasks.j0 k t109 t112 t121 t124 true l0_0 t106 t114 t118) = some r := by rw [if_neg (show ¬ (false = true) by decide)] at H; exact H
     clear H
     have H := H1
     clear H1
     have H' := Aside0.mk H
     clear H
     have hnb51 := NB125_101.out
     have hnc51 := NB101_125.out
     have hnb52 := NB125_113.out
     have hnc52 := NB113_125.out
     have hnb53 := NB125_117.out
     have hnc53 := NB117_125.out
     have hcz54_0 : w31.cell? ⟨gb125, 0, none⟩ = some (.slice none 0 0) := (blk_cell BK125.out 0).trans rfl
     have hfz54_0 := blk_frozen BK125.out 0
     have hnb55 := NB113_101.out
     have hnc55 := NB101_113.out
     have hnb56 := NB113_117.out
     have hnc56 := NB117_113.out
     have hcz57_0 : w31.cell? ⟨gb113, 0, none⟩ = some (.slice Ao20 t106.length co20) := (blk_cell BK113.out 0).trans rfl
     have hfz57_0 := blk_frozen BK113.out 0
     go_wp2_with (first | ((with_reducible refine gate_callee (f := 61) rfl ?_); refine goesL_ (some 39) rfl rfl Try.func61 (by kernel_rfl) rfl #[.agg #[.slice Ao32 t118.length co32], .agg #[.slice Ao20 t106.length co20]] rfl (by (try simp only [List.map_toArray, List.map_cons, List.map_nil]); first | done | rfl | (simp only [List.length_drop, List.length_take]; rfl)) ?_; (with_reducible refine (laws_eqTasks.calls k _ _ t118 _ _ t106 true _ ?side1 ?side2 ?side3 ?side4 A37.out).mono ?_); (case side1 => refine (Kd.R_reads' (e := 2) (base := w.heap.size) (ok := fun k_ => ((((some k_ ≠ (v122 : Value).ownBlock ∧ some k_ ≠ (.slice Ao17 t103.length co17 : Value).ownBlock) ∧ some k_ ≠ (.slice Ao20 t106.length co20 : Value).ownBlock) ∧ some k_ ≠ (v110 : Value).ownBlock) ∧ some k_ ≠ (.slice Ao26 t114.length co26 : Value).ownBlock)) (n := t118.length) (c := co32) ?_).2.2; exact (by (with_reducible repeat first | apply qc32_4 | apply qc32_5 | apply qc32_6); exact (Kd.R_mono (Kd.R_far (p := ⟨gb125, 0, none⟩) (Kd.R_types HO120.out BK125.out (by decide)) (fun _ hk => hk.2) (.slice Ao32 t118.length co32)) (fun _ h_ => h_.1)))); (case side2 => exact (Kd.R_reads' HO120.out).2.1); (case side3 => refine (Kd.R_reads' (e := 2) (base := w.heap.size) (ok := fun k_ => ((((some k_ ≠ (v110 : Value).ownBlock ∧ some k_ ≠ (.slice Ao17 t103.length co17 : Value).ownBlock) ∧ some k_ ≠ (.slice Ao26 t114.length co26 : Value).ownBlock) ∧ some k_ ≠ (.slice Ao32 t118.length co32 : Value).ownBlock) ∧ some k_ ≠ (v122 : Value).ownBlock)) (n := t106.length) (c := co20) ?_).2.2; exact (by (with_reducible repeat first | apply qc32_4 | apply qc32_5 | apply qc32_6); exact (Kd.R_mono (Kd.R_far (p := ⟨gb125, 0, none⟩) (Kd.R_types HO108.out BK125.out (by decide)) (fun _ hk => hk.2) (.slice Ao32 t118.length co32)) (fun _ h_ => h_.1)))); (case side4 => exact (Kd.R_reads' HO108.out).2.1); rintro e w58 ⟨rfl, hb⟩; refine ⟨_, rfl, ?_⟩; have n0_ := Aside0.mk (Kd.R_below (by (with_reducible repeat first | apply qc32_4 | apply qc32_5 | apply qc32_6); exact (Kd.R_mono (Kd.R_far (p := ⟨gb125, 0, none⟩) (Kd.R_types HO105.out BK125.out (by decide)) (fun _ hk => hk.2) (.slice Ao32 t118.length co32)) (fun _ h_ => h_.1))) hb); have n1_ := Aside0.mk (Kd.R_below (by (with_reducible repeat first | apply qc32_4 | apply qc32_5 | apply qc32_6); exact (Kd.R_mono (Kd.R_far (p := ⟨gb125, 0, none⟩) (Kd.R_types HO108.out BK125.out (by decide)) (fun _ hk => hk.2) (.slice Ao32 t118.length co32)) (fun _ h_ => h_.1))) hb); have n2_ := Aside0.mk (Kd.R_below (by (with_reducible repeat first | apply qc32_4 | apply qc32_5 | apply qc32_6); exact (Kd.R_mono (Kd.R_far (p := ⟨gb125, 0, none⟩) (Kd.R_types HO111.out BK125.out (by decide)) (fun _ hk => hk.2) (.slice Ao32 t118.length co32)) (fun _ h_ => h_.1))) hb); have n3_ := Aside0.mk (Kd.R_below (by (with_reducible repeat first | apply qc32_4 | apply qc32_5 | apply qc32_6); exact (Kd.R_mono (Kd.R_far (p := ⟨gb125, 0, none⟩) (Kd.R_types HO116.out BK125.out (by decide)) (fun _ hk => hk.2) (.slice Ao32 t118.length co32)) (fun _ h_ => h_.1))) hb); have n4_ := Aside0.mk (Kd.R_below (by (with_reducible repeat first | apply qc32_4 | apply qc32_5 | apply qc32_6); exact (Kd.R_mono (Kd.R_far (p := ⟨gb125, 0, none⟩) (Kd.R_types HO120.out BK125.out (by decide)) (fun _ hk => hk.2) (.slice Ao32 t118.length co32)) (fun _ h_ => h_.1))) hb); have n5_ := Aside0.mk (Kd.R_below (by (with_reducible repeat first | apply qc32_4 | apply qc32_5 | apply qc32_6); exact (Kd.R_mono (Kd.R_far (p := ⟨gb125, 0, none⟩) (Kd.R_types HO123.out BK125.out (by decide)) (fun _ hk => hk.2) (.slice Ao32 t118.length co32)) (fun _ h_ => h_.1))) hb); have n6_ := Aside0.mk (blk_below (g := gb101) (o := .cells #[.slice A0_0 l0_0.length c0_0] 56 (0, 0)) (by (with_reducible repeat first | apply qc32_7 | apply qc32_8 | apply qc32_9); refine blk_far ?_ NB101_125.out _; (with_reducible repeat first | apply qc32_7 | apply qc32_8 | apply qc32_9); exact BK101.out) hb); have n7_ := Aside0.mk (blk_below (g := gb113) (o := .cells #[.slice Ao20 t106.length co20] 34 (0, 0)) (by (with_reducible repeat first | apply qc32_7 | apply qc32_8 | apply qc32_9); refine blk_far ?_ NB113_125.out _; (with_reducible repeat first | apply qc32_7 | apply qc32_8 | apply qc32_9); exact BK113.out) hb); have n8_ := Aside0.mk (blk_below (g := gb117) (o := .cells #[.slice Ao26 t114.length co26] 34 (0, 0)) (by (with_reducible repeat first | apply qc32_7 | apply qc32_8 | apply qc32_9); refine blk_far ?_ NB117_125.out _; (with_reducible repeat first | apply qc32_7 | apply qc32_8 | apply qc32_9); exact BK117.out) hb); have n9_ := Aside0.mk (blk_below (g := gb125) (o := .cells #[.slice Ao32 t118.length co32] 34 (0, 0)) (by (with_reducible repeat first | apply qc32_7 | apply qc32_8 | apply qc32_9); refine blk_put (cs := #[.slice none 0 0]) ?_ 0 _ rfl; (with_reducible repeat first | apply qc32_7 | apply qc32_8 | apply qc32_9); exact BK125.out) hb); have n10_ := Aside0.mk (below_step (by repeat (first | (with_reducible first | exact HB.out | apply below_alloc | apply pw_below_drewN | apply below_drew1 | refine below_set ?_ GE101.out | refine below_set ?_ GE113.out | refine below_set ?_ GE117.out | refine below_set ?_ GE125.out) | exact HB.out)) hb); clear HO105; clear HO108; clear HO111; clear HO116; clear HO120; clear HO123; clear BK101; clear BK113; clear BK117; clear BK125; clear HB; have HO105 := n0_; have HO108 := n1_; have HO111 := n2_; have HO116 := n3_; have HO120 := n4_; have HO123 := n5_; have BK101 := n6_; have BK113 := n7_; have BK117 := n8_; have BK125 := n9_; have HB := n10_; clear n0_ n1_ n2_ n3_ n4_ n5_ n6_ n7_ n8_ n9_ n10_; (try clear hb); (try clear hb2); (try clear hk); (try clear hi); obtain ⟨Ao59, co59, eo59⟩ := Kd.R_slice HO123.out; subst eo59; obtain ⟨Ao60, co60, eo60⟩ := Kd.R_slice HO111.out; subst eo60) | (go_at_call 62; (with_reducible refine (laws_eqInt64S.calls k _ _ t121 _ _ t109 false _ ?side1 ?side2 ?side3 ?side4 A39.out).mono ?_); (case side1 => repeat (first | exact (Kd.R_reads' HO123.out).2.2 | (with_reducible refine Kd.C_alloc ?_ _) | (with_reducible refine Kd.C_drewN ?_ _) | (with_reducible refine Kd.C_drew ?_))); (case side2 => exact (Kd.R_reads' HO123.out).2.1); (case side3 => repeat (first | exact (Kd.R_reads' HO111.out).2.2 | (with_reducible refine Kd.C_alloc ?_ _) | (with_reducible refine Kd.C_drewN ?_ _) | (with_reducible refine Kd.C_drew ?_))); (case side4 => exact (Kd.R_reads' HO111.out).2.1); rintro e w' ⟨rfl, ⟨nd, rfl⟩⟩))
     go_meet
     case rel => exact ⟨_, (true), (by first | rfl | simp), H', ⟨by first | omega | exact Nat.le_refl _⟩, ⟨by (with_reducible repeat first | apply qc32_4 | apply qc32_5 | apply qc32_6); exact Kd.R_mono HO111.out (fun _ hk => ⟨hk.2, ⟨hk.1.1.1.1, ⟨hk.1.1.2, hk.1.2⟩⟩⟩)⟩, ⟨by (with_reducible repeat first | apply qc32_4 | apply qc32_5 | apply qc32_6); exact Kd.R_mono HO123.out (fun _ hk => ⟨hk.1.2, ⟨hk.1.1.2, ⟨hk.2, hk.1.1.1.1⟩⟩⟩)⟩, ⟨by (with_reducible repeat first | apply qc32_4 | apply qc32_5 | apply qc32_6); exact Kd.R_mono HO108.out (fun _ hk => ⟨hk.1.1.1.1, ⟨hk.2, ⟨hk.1.1.2, hk.1.2⟩⟩⟩)⟩, ⟨by (with_reducible repeat first | apply qc32_4 | apply qc32_5 | apply qc32_6); exact Kd.R_mono HO116.out (fun _ hk => ⟨hk.1.1.2, ⟨hk.2, ⟨hk.1.1.1.2, hk.1.2⟩⟩⟩)⟩, ⟨by (with_reducible repeat first | apply qc32_4 | apply qc32_5 | apply qc32_6); exact Kd.R_mono HO120.out (fun _ hk => ⟨hk.1.2, ⟨hk.1.1.1.1, ⟨hk.1.1.2, hk.2⟩⟩⟩)⟩, ⟨by (with_reducible repeat first | apply qc32_7 | apply qc32_8 | apply qc32_9); exact BK101.out⟩, ⟨by (with_reducible repeat first | apply qc32_7 | apply qc32_8 | apply qc32_9); exact BK113.out⟩, ⟨by (with_reducible repeat first | apply qc32_7 | apply qc32_8 | apply qc32_9); exact BK117.out⟩, ⟨by (with_reducible repeat first | apply qc32_7 | apply qc32_8 | apply qc32_9); exact BK125.out⟩, ⟨by repeat (first | (with_reducible first | exact HB.out | apply below_alloc | apply pw_below_drewN | apply below_drew1 | refine below_set ?_ GE101.out | refine below_set ?_ GE113.out | refine below_set ?_ GE117.out | refine below_set ?_ GE125.out) | exact HB.out)⟩⟩
   ·
    replace c38 := Bool.eq_false_iff.mpr c38
    subst c38
    have H1 : (laws_FnExactSortTasks.j0 k t109 t112 t121 t124 true l0_0 t106 t114 t118) = some r := by rw [if_neg (show ¬ (false = true) by decide)] at H; exact H
    clear H
    have H := H1
    clear H1
    have H' := Aside0.mk H
    clear H
    have hnb61 := NB125_101.out
    have hnc61 := NB101_125.out
    have hnb62 := NB125_113.out
    have hnc62 := NB113_125.out
    have hnb63 := NB125_117.out
    have hnc63 := NB117_125.out
    have hcz64_0 : w31.cell? ⟨gb125, 0, none⟩ = some (.slice none 0 0) := (blk_cell BK125.out 0).trans rfl
    have hfz64_0 := blk_frozen BK125.out 0
    have hnb65 := NB113_101.out
    have hnc65 := NB101_113.out
    have hnb66 := NB113_117.out
    have hnc66 := NB117_113.out
    have hcz67_0 : w31.cell? ⟨gb113, 0, none⟩ = some (.slice Ao20 t106.length co20) := (blk_cell BK113.out 0).trans rfl
    have hfz67_0 := blk_frozen BK113.out 0
    go_wp2_with (first | ((with_reducible refine gate_callee (f := 61) rfl ?_); refine goesL_ (some 39) rfl rfl Try.func61 (by kernel_rfl) rfl #[.agg #[.slice Ao32 t118.length co32], .agg #[.slice Ao20 t106.length co20]] rfl (by (try simp only [List.map_toArray, List.map_cons, List.map_nil]); first | done | rfl | (simp only [List.length_drop, List.length_take]; rfl)) ?_; (with_reducible refine (laws_eqTasks.calls k _ _ t118 _ _ t106 false _ ?side1 ?side2 ?side3 ?side4 A37.out).mono ?_); (case side1 => refine (Kd.R_reads' (e := 2) (base := w.heap.size) (ok := fun k_ => ((((some k_ ≠ (v122 : Value).ownBlock ∧ some k_ ≠ (.slice Ao17 t103.length co17 : Value).ownBlock) ∧ some k_ ≠ (.slice Ao20 t106.length co20 : Value).ownBlock) ∧ some k_ ≠ (v110 : Value).ownBlock) ∧ some k_ ≠ (.slice Ao26 t114.length co26 : Value).ownBlock)) (n := t118.length) (c := co32) ?_).2.2; exact (by (with_reducible repeat first | apply qc32_4 | apply qc32_5 | apply qc32_6); exact (Kd.R_mono (Kd.R_far (p := ⟨gb125, 0, none⟩) (Kd.R_types HO120.out BK125.out (by decide)) (fun _ hk => hk.2) (.slice Ao32 t118.length co32)) (fun _ h_ => h_.1)))); (case side2 => exact (Kd.R_reads' HO120.out).2.1); (case side3 => refine (Kd.R_reads' (e := 2) (base := w.heap.size) (ok := fun k_ => ((((some k_ ≠ (v110 : Value).ownBlock ∧ some k_ ≠ (.slice Ao17 t103.length co17 : Value).ownBlock) ∧ some k_ ≠ (.slice Ao26 t114.length co26 : Value).ownBlock) ∧ some k_ ≠ (.slice Ao32 t118.length co32 : Value).ownBlock) ∧ some k_ ≠ (v122 : Value).ownBlock)) (n := t106.length) (c := co20) ?_).2.2; exact (by (with_reducible repeat first | apply qc32_4 | apply qc32_5 | apply qc32_6); exact (Kd.R_mono (Kd.R_far (p := ⟨gb125, 0, none⟩) (Kd.R_types HO108.out BK125.out (by decide)) (fun _ hk => hk.2) (.slice Ao32 t118.length co32)) (fun _ h_ => h_.1)))); (case side4 => exact (Kd.R_reads' HO108.out).2.1); rintro e w68 ⟨rfl, hb⟩; refine ⟨_, rfl, ?_⟩; have n0_ := Aside0.mk (Kd.R_below (by (with_reducible repeat first | apply qc32_4 | apply qc32_5 | apply qc32_6); exact (Kd.R_mono (Kd.R_far (p := ⟨gb125, 0, none⟩) (Kd.R_types HO105.out BK125.out (by decide)) (fun _ hk => hk.2) (.slice Ao32 t118.length co32)) (fun _ h_ => h_.1))) hb); have n1_ := Aside0.mk (Kd.R_below (by (with_reducible repeat first | apply qc32_4 | apply qc32_5 | apply qc32_6); exact (Kd.R_mono (Kd.R_far (p := ⟨gb125, 0, none⟩) (Kd.R_types HO108.out BK125.out (by decide)) (fun _ hk => hk.2) (.slice Ao32 t118.length co32)) (fun _ h_ => h_.1))) hb); have n2_ := Aside0.mk (Kd.R_below (by (with_reducible repeat first | apply qc32_4 | apply qc32_5 | apply qc32_6); exact (Kd.R_mono (Kd.R_far (p := ⟨gb125, 0, none⟩) (Kd.R_types HO111.out BK125.out (by decide)) (fun _ hk => hk.2) (.slice Ao32 t118.length co32)) (fun _ h_ => h_.1))) hb); have n3_ := Aside0.mk (Kd.R_below (by (with_reducible repeat first | apply qc32_4 | apply qc32_5 | apply qc32_6); exact (Kd.R_mono (Kd.R_far (p := ⟨gb125, 0, none⟩) (Kd.R_types HO116.out BK125.out (by decide)) (fun _ hk => hk.2) (.slice Ao32 t118.length co32)) (fun _ h_ => h_.1))) hb); have n4_ := Aside0.mk (Kd.R_below (by (with_reducible repeat first | apply qc32_4 | apply qc32_5 | apply qc32_6); exact (Kd.R_mono (Kd.R_far (p := ⟨gb125, 0, none⟩) (Kd.R_types HO120.out BK125.out (by decide)) (fun _ hk => hk.2) (.slice Ao32 t118.length co32)) (fun _ h_ => h_.1))) hb); have n5_ := Aside0.mk (Kd.R_below (by (with_reducible repeat first | apply qc32_4 | apply qc32_5 | apply qc32_6); exact (Kd.R_mono (Kd.R_far (p := ⟨gb125, 0, none⟩) (Kd.R_types HO123.out BK125.out (by decide)) (fun _ hk => hk.2) (.slice Ao32 t118.length co32)) (fun _ h_ => h_.1))) hb); have n6_ := Aside0.mk (blk_below (g := gb101) (o := .cells #[.slice A0_0 l0_0.length c0_0] 56 (0, 0)) (by (with_reducible repeat first | apply qc32_7 | apply qc32_8 | apply qc32_9); refine blk_far ?_ NB101_125.out _; (with_reducible repeat first | apply qc32_7 | apply qc32_8 | apply qc32_9); exact BK101.out) hb); have n7_ := Aside0.mk (blk_below (g := gb113) (o := .cells #[.slice Ao20 t106.length co20] 34 (0, 0)) (by (with_reducible repeat first | apply qc32_7 | apply qc32_8 | apply qc32_9); refine blk_far ?_ NB113_125.out _; (with_reducible repeat first | apply qc32_7 | apply qc32_8 | apply qc32_9); exact BK113.out) hb); have n8_ := Aside0.mk (blk_below (g := gb117) (o := .cells #[.slice Ao26 t114.length co26] 34 (0, 0)) (by (with_reducible repeat first | apply qc32_7 | apply qc32_8 | apply qc32_9); refine blk_far ?_ NB117_125.out _; (with_reducible repeat first | apply qc32_7 | apply qc32_8 | apply qc32_9); exact BK117.out) hb); have n9_ := Aside0.mk (blk_below (g := gb125) (o := .cells #[.slice Ao32 t118.length co32] 34 (0, 0)) (by (with_reducible repeat first | apply qc32_7 | apply qc32_8 | apply qc32_9); refine blk_put (cs := #[.slice none 0 0]) ?_ 0 _ rfl; (with_reducible repeat first | apply qc32_7 | apply qc32_8 | apply qc32_9); exact BK125.out) hb); have n10_ := Aside0.mk (below_step (by repeat (first | (with_reducible first | exact HB.out | apply below_alloc | apply pw_below_drewN | apply below_drew1 | refine below_set ?_ GE101.out | refine below_set ?_ GE113.out | refine below_set ?_ GE117.out | refine below_set ?_ GE125.out) | exact HB.out)) hb); clear HO105; clear HO108; clear HO111; clear HO116; clear HO120; clear HO123; clear BK101; clear BK113; clear BK117; clear BK125; clear HB; have HO105 := n0_; have HO108 := n1_; have HO111 := n2_; have HO116 := n3_; have HO120 := n4_; have HO123 := n5_; have BK101 := n6_; have BK113 := n7_; have BK117 := n8_; have BK125 := n9_; have HB := n10_; clear n0_ n1_ n2_ n3_ n4_ n5_ n6_ n7_ n8_ n9_ n10_; (try clear hb); (try clear hb2); (try clear hk); (try clear hi)))
    go_meet
    case rel => exact ⟨_, (true), (by first | rfl | simp), H', ⟨by first | omega | exact Nat.le_refl _⟩, ⟨by (with_reducible repeat first | apply qc32_4 | apply qc32_5 | apply qc32_6); exact Kd.R_mono HO111.out (fun _ hk => ⟨hk.2, ⟨hk.1.1.1.1, ⟨hk.1.1.2, hk.1.2⟩⟩⟩)⟩, ⟨by (with_reducible repeat first | apply qc32_4 | apply qc32_5 | apply qc32_6); exact Kd.R_mono HO123.out (fun _ hk => ⟨hk.1.2, ⟨hk.1.1.2, ⟨hk.2, hk.1.1.1.1⟩⟩⟩)⟩, ⟨by (with_reducible repeat first | apply qc32_4 | apply qc32_5 | apply qc32_6); exact Kd.R_mono HO108.out (fun _ hk => ⟨hk.1.1.1.1, ⟨hk.2, ⟨hk.1.1.2, hk.1.2⟩⟩⟩)⟩, ⟨by (with_reducible repeat first | apply qc32_4 | apply qc32_5 | apply qc32_6); exact Kd.R_mono HO116.out (fun _ hk => ⟨hk.1.1.2, ⟨hk.2, ⟨hk.1.1.1.2, hk.1.2⟩⟩⟩)⟩, ⟨by (with_reducible repeat first | apply qc32_4 | apply qc32_5 | apply qc32_6); exact Kd.R_mono HO120.out (fun _ hk => ⟨hk.1.2, ⟨hk.1.1.1.1, ⟨hk.1.1.2, hk.2⟩⟩⟩)⟩, ⟨by (with_reducible repeat first | apply qc32_7 | apply qc32_8 | apply qc32_9); exact BK101.out⟩, ⟨by (with_reducible repeat first | apply qc32_7 | apply qc32_8 | apply qc32_9); exact BK113.out⟩, ⟨by (with_reducible repeat first | apply qc32_7 | apply qc32_8 | apply qc32_9); exact BK117.out⟩, ⟨by (with_reducible repeat first | apply qc32_7 | apply qc32_8 | apply qc32_9); exact BK125.out⟩, ⟨by repeat (first | (with_reducible first | exact HB.out | apply below_alloc | apply pw_below_drewN | apply below_drew1 | refine below_set ?_ GE101.out | refine below_set ?_ GE113.out | refine below_set ?_ GE117.out | refine below_set ?_ GE125.out) | exact HB.out)⟩⟩
  case rest =>
   clear HC11
   try clear c2
   try clear p2
   try clear c3
   try clear c3b0
   try clear c4
   try clear c5
   try clear c6
   try clear c21
   try clear c27
   try clear c28
   try clear c33
   try clear c34
   try clear c35
   try clear c38
   try clear c40
   try clear c41
   try clear c42
   try clear c43
   try clear c45
   try clear c46
   try clear c51
   try clear c52
   try clear c53
   try clear c55
   try clear c56
   try clear c57
   try clear c58
   try clear c59
   try clear c60
   try clear c61
   try clear c62
   try clear c63
   try clear c65
   try clear c66
   try clear hcz13_0
   try clear hcz15_0
   try clear hcz22_0
   try clear hcz23_0
   try clear hcz29_0
   try clear hcz36_0
   try clear hcz44_0
   try clear hcz47_0
   try clear hcz54_0
   try clear hcz57_0
   try clear hcz5_0
   try clear hcz64_0
   try clear hcz67_0
   try clear hfz13_0
   try clear hfz15_0
   try clear hfz22_0
   try clear hfz23_0
   try clear hfz29_0
   try clear hfz36_0
   try clear hfz44_0
   try clear hfz47_0
   try clear hfz54_0
   try clear hfz57_0
   try clear hfz5_0
   try clear hfz64_0
   try clear hfz67_0
   obtain ⟨kq, x51_10, rfl, HA, HJ10, HO_5, HO_9, HO_114000, HO_118000, HO_126000, BK101, BK113, BK117, BK125, HB⟩ := hcut
   cases kq with
   | zero => exact absurd HA.out (by simp [laws_FnExactSortTasks.j0])
   | succ kj10 =>
    have H := HA.out
    clear HA
    simp only [laws_FnExactSortTasks.j0] at H
    by_cases c69 : x51_10 = true
    ·
     subst c69
     have H1 : (some false) = some r := by rw [if_pos rfl] at H; exact H
     clear H
     have H := H1
     clear H1
     obtain rfl := Option.some.inj H
     go_wp2
     go_ret
     exact ⟨by first | rfl | (simp [errW_none, errW_some] <;> rfl) | (simp [*, errW_none, errW_some] <;> rfl), by repeat (first | (with_reducible first | exact HB.out | apply below_alloc | apply pw_below_drewN | apply below_drew1 | refine below_set ?_ GE101.out | refine below_set ?_ GE113.out | refine below_set ?_ GE117.out | refine below_set ?_ GE125.out) | exact HB.out)⟩
    ·
     replace c69 := Bool.eq_false_iff.mpr c69
     subst c69
     have H1 : ((laws_toTasks.f kj10 l0_0).bind fun t128 => ((laws_eqTasks.f kj10 t114 t128).bind fun t131 => (if t131 = true then ((laws_markTasks.f kj10 t114 1).bind fun bt132 => (if bt132.1 < 0 then (laws_FnExactSortTasks.j1 kj10 t109 t112 t121 true l0_0 t106 t118) else ((laws_eqTasks.f kj10 t118 t106).bind fun t134 => (if t134 = true then ((laws_eqInt64S.f kj10 t121 t109).bind fun t135 => (if t135 = true then (laws_FnExactSortTasks.j1 kj10 t109 t112 t121 (t124 != t112) l0_0 t106 t118) else (laws_FnExactSortTasks.j1 kj10 t109 t112 t121 true l0_0 t106 t118))) else (laws_FnExactSortTasks.j1 kj10 t109 t112 t121 true l0_0 t106 t118))))) else (some false)))) = some r := by rw [if_neg (show ¬ (false = true) by decide)] at H; exact H
     clear H
     have H := H1
     clear H1
     replace H := Option.bind_eq_some_iff.mp H
     obtain ⟨t128, A700, H⟩ := H
     replace H : ((laws_eqTasks.f kj10 t114 t128).bind fun t131 => (if t131 = true then ((laws_markTasks.f kj10 t114 1).bind fun bt132 => (if bt132.1 < 0 then (laws_FnExactSortTasks.j1 kj10 t109 t112 t121 true l0_0 t106 t118) else ((laws_eqTasks.f kj10 t118 t106).bind fun t134 => (if t134 = true then ((laws_eqInt64S.f kj10 t121 t109).bind fun t135 => (if t135 = true then (laws_FnExactSortTasks.j1 kj10 t109 t112 t121 (t124 != t112) l0_0 t106 t118) else (laws_FnExactSortTasks.j1 kj10 t109 t112 t121 true l0_0 t106 t118))) else (laws_FnExactSortTasks.j1 kj10 t109 t112 t121 true l0_0 t106 t118))))) else (some false))) = some r := H
     have A70 := Aside0.mk A700
     clear A700
     replace H := Option.bind_eq_some_iff.mp H
     obtain ⟨t131, A710, H⟩ := H
     replace H : (if t131 = true then ((laws_markTasks.f kj10 t114 1).bind fun bt132 => (if bt132.1 < 0 then (laws_FnExactSortTasks.j1 kj10 t109 t112 t121 true l0_0 t106 t118) else ((laws_eqTasks.f kj10 t118 t106).bind fun t134 => (if t134 = true then ((laws_eqInt64S.f kj10 t121 t109).bind fun t135 => (if t135 = true then (laws_FnExactSortTasks.j1 kj10 t109 t112 t121 (t124 != t112) l0_0 t106 t118) else (laws_FnExactSortTasks.j1 kj10 t109 t112 t121 true l0_0 t106 t118))) else (laws_FnExactSortTasks.j1 kj10 t109 t112 t121 true l0_0 t106 t118))))) else (some false)) = some r := H
     have A71 := Aside0.mk A710
     clear A710
     by_cases c72 : t131 = true
     ·
      subst c72
      have H1 : ((laws_markTasks.f kj10 t114 1).bind fun bt132 => (if bt132.1 < 0 then (laws_FnExactSortTasks.j1 kj10 t109 t112 t121 true l0_0 t106 t118) else ((laws_eqTasks.f kj10 t118 t106).bind fun t134 => (if t134 = true then ((laws_eqInt64S.f kj10 t121 t109).bind fun t135 => (if t135 = true then (laws_FnExactSortTasks.j1 kj10 t109 t112 t121 (t124 != t112) l0_0 t106 t118) else (laws_FnExactSortTasks.j1 kj10 t109 t112 t121 true l0_0 t106 t118))) else (laws_FnExactSortTasks.j1 kj10 t109 t112 t121 true l0_0 t106 t118))))) = some r := by rw [if_pos rfl] at H; exact H
      clear H
      have H := H1
      clear H1
      replace H := Option.bind_eq_some_iff.mp H
      obtain ⟨⟨t132, t133⟩, A730, H⟩ := H
      replace H : (if t132 < 0 then (laws_FnExactSortTasks.j1 kj10 t109 t112 t121 true l0_0 t106 t118) else ((laws_eqTasks.f kj10 t118 t106).bind fun t134 => (if t134 = true then ((laws_eqInt64S.f kj10 t121 t109).bind fun t135 => (if t135 = true then (laws_FnExactSortTasks.j1 kj10 t109 t112 t121 (t124 != t112) l0_0 t106 t118) else (laws_FnExactSortTasks.j1 kj10 t109 t112 t121 true l0_0 t106 t118))) else (laws_FnExactSortTasks.j1 kj10 t109 t112 t121 true l0_0 t106 t118)))) = some r := H
      have A73 := Aside0.mk A730
      clear A730
      have HC74 := Aside0.mk H
      clear H
      try go_wp2
      have n0_ := Aside0.mk (Kd.R_drew HO_5.out)
      have n1_ := Aside0.mk (Kd.R_drew HO_9.out)
      have n2_ := Aside0.mk (Kd.R_drew HO_114000.out)
      have n3_ := Aside0.mk (Kd.R_drew HO_118000.out)
      have n4_ := Aside0.mk (Kd.R_drew HO_126000.out)
      have n5_ := Aside0.mk (blk_drew BK101.out)
      have n6_ := Aside0.mk (blk_drew BK113.out)
      have n7_ := Aside0.mk (blk_drew BK117.out)
      have n8_ := Aside0.mk (blk_drew BK125.out)
      have n9_ := Aside0.mk (below_drew1 HB.out)
      clear HO_5
      clear HO_9
      clear HO_114000
      clear HO_118000
      clear HO_126000
      clear BK101
      clear BK113
      clear BK117
      clear BK125
      clear HB
      have HO_5 := n0_
      have HO_9 := n1_
      have HO_114000 := n2_
      have HO_118000 := n3_
      have HO_126000 := n4_
      have BK101 := n5_
      have BK113 := n6_
      have BK117 := n7_
      have BK125 := n8_
      have HB := n9_
      clear n0_ n1_ n2_ n3_ n4_ n5_ n6_ n7_ n8_ n9_
      refine start_ (n := 5) (S := fun w' => w'.cell? ⟨gb117, 0, none⟩ = some (.slice Ao26 t114.length co26) ∧ w'.cell? ⟨gb101, 0, none⟩ = some (.slice A0_0 l0_0.length c0_0)) (ds := []) #[false,false,false,false,false] (by kernel_rfl) rfl rfl ⟨(blk_cell BK117.out 0).trans rfl, (blk_cell BK101.out 0).trans rfl⟩ (fun hHeld => ?_)
      generalize wc.drew = w75 at HO_5 HO_9 HO_114000 HO_118000 HO_126000 BK101 BK113 BK117 BK125 HB hHeld ⊢
      refine take_ (i := 0) (N := some 52) (v := ?_) (a' := ?_) #[true,false,false,false,false] rfl rfl (by kernel_rfl) (fun _ _ _ h => h) (Or.inl ⟨by rfl, ?_⟩) hHeld ?_ ?_
      rotate_left; (· rintro w' ⟨s0, s1⟩; go_simp; with_reducible rfl); rotate_left; (· simp only [Act.put, qc32_1, qc32_2, qc32_3, i64_w, i32_w]; rfl)
      refine take_ (i := 1) (N := some 53) (v := ?_) (a' := ?_) #[true,true,false,false,false] rfl rfl (by kernel_rfl) (fun _ _ _ h => h) (Or.inl ⟨by rfl, ?_⟩) hHeld ?_ ?_
      rotate_left; (· rintro w' ⟨s0, s1⟩; go_simp; with_reducible rfl); rotate_left; (· simp only [Act.put, qc32_1, qc32_2, qc32_3, i64_w, i32_w]; rfl)
      refine one_ (i := 2) (N := some 54) #[true,true,true,false,false] rfl rfl (by kernel_rfl) (by decide) (fun K hK => ?_)
      refine goes_ Try.func59 (by kernel_rfl) rfl #[.agg #[.slice A0_0 l0_0.length c0_0]] (by rfl) rfl rfl (by (try simp only [List.map_toArray, List.map_cons, List.map_nil]); first | done | rfl | (simp only [List.length_drop, List.length_take]; rfl)) ?_
      with_reducible refine (laws_toTasks.calls kj10 _ _ l0_0 t128 _ ?side1 ?side2 A70.out).mono ?_
      (case side1 => repeat (first | exact (Kd.C_below HR0_0.out HB.out) | (with_reducible refine Kd.C_alloc ?_ _) | (with_reducible refine Kd.C_drewN ?_ _) | (with_reducible refine Kd.C_drew ?_)))
      (case side2 => exact HC0_0.out)
      rintro e w76 ⟨v129, rfl, ho0, hb⟩
      refine ⟨_, rfl, ?_⟩
      have n0_ := Aside0.mk (Kd.R_elder' (by (with_reducible repeat first | apply qc32_4 | apply qc32_5 | apply qc32_6); exact HO_5.out) (Kd.R_base ho0) hb)
      have n1_ := Aside0.mk (Kd.R_elder' (by (with_reducible repeat first | apply qc32_4 | apply qc32_5 | apply qc32_6); exact HO_9.out) (Kd.R_base ho0) hb)
      have n2_ := Aside0.mk (Kd.R_elder' (by (with_reducible repeat first | apply qc32_4 | apply qc32_5 | apply qc32_6); exact HO_114000.out) (Kd.R_base ho0) hb)
      have n3_ := Aside0.mk (Kd.R_elder' (by (with_reducible repeat first | apply qc32_4 | apply qc32_5 | apply qc32_6); exact HO_118000.out) (Kd.R_base ho0) hb)
      have n4_ := Aside0.mk (Kd.R_elder' (by (with_reducible repeat first | apply qc32_4 | apply qc32_5 | apply qc32_6); exact HO_126000.out) (Kd.R_base ho0) hb)
      have n5_ := Aside0.mk (Kd.R_lower (Kd.R_new' (Kd.R_new' (Kd.R_new' (Kd.R_new' (Kd.R_new' ho0 (Kd.R_lt (by (with_reducible repeat first | apply qc32_4 | apply qc32_5 | apply qc32_6); exact HO_5.out))) (Kd.R_lt (by (with_reducible repeat first | apply qc32_4 | apply qc32_5 | apply qc32_6); exact HO_9.out))) (Kd.R_lt (by (with_reducible repeat first | apply qc32_4 | apply qc32_5 | apply qc32_6); exact HO_114000.out))) (Kd.R_lt (by (with_reducible repeat first | apply qc32_4 | apply qc32_5 | apply qc32_6); exact HO_118000.out))) (Kd.R_lt (by (with_reducible repeat first | apply qc32_4 | apply qc32_5 | apply qc32_6); exact HO_126000.out))) (below_size (by repeat (first | (with_reducible first | exact HB.out | apply below_alloc | apply pw_below_drewN | apply below_drew1 | refine below_set ?_ GE101.out | refine below_set ?_ GE113.out | refine below_set ?_ GE117.out | refine below_set ?_ GE125.out) | exact HB.out))))
      have n6_ := Aside0.mk (blk_below (g := gb101) (o := .cells #[.slice A0_0 l0_0.length c0_0] 56 (0, 0)) (by (with_reducible repeat first | apply qc32_7 | apply qc32_8 | apply qc32_9); exact BK101.out) hb)
      have n7_ := Aside0.mk (blk_below (g := gb113) (o := .cells #[.slice Ao20 t106.length co20] 34 (0, 0)) (by (with_reducible repeat first | apply qc32_7 | apply qc32_8 | apply qc32_9); exact BK113.out) hb)
      have n8_ := Aside0.mk (blk_below (g := gb117) (o := .cells #[.slice Ao26 t114.length co26] 34 (0, 0)) (by (with_reducible repeat first | apply qc32_7 | apply qc32_8 | apply qc32_9); exact BK117.out) hb)
      have n9_ := Aside0.mk (blk_below (g := gb125) (o := .cells #[.slice Ao32 t118.length co32] 34 (0, 0)) (by (with_reducible repeat first | apply qc32_7 | apply qc32_8 | apply qc32_9); exact BK125.out) hb)
      have n10_ := Aside0.mk (below_step (by repeat (first | (with_reducible first | exact HB.out | apply below_alloc | apply pw_below_drewN | apply below_drew1 | refine below_set ?_ GE101.out | refine below_set ?_ GE113.out | refine below_set ?_ GE117.out | refine below_set ?_ GE125.out) | exact HB.out)) hb)
      clear HO_5
      clear HO_9
      clear HO_114000
      clear HO_118000
      clear HO_126000
      clear BK101
      clear BK113
      clear BK117
      clear BK125
      clear HB
      have HO_5 := n0_
      have HO_9 := n1_
      have HO_114000 := n2_
      have HO_118000 := n3_
      have HO_126000 := n4_
      have HO130 := n5_
      have BK101 := n6_
      have BK113 := n7_
      have BK117 := n8_
      have BK125 := n9_
      have HB := n10_
      clear n0_ n1_ n2_ n3_ n4_ n5_ n6_ n7_ n8_ n9_ n10_
      (try clear hb)
      (try clear hb2)
      (try clear hk)
      (try clear hi)
      (try clear ho0)
      obtain ⟨Ao77, co77, eo77⟩ := Kd.R_slice HO130.out
      (first | subst eo77 | (injection eo77 with f1_ f2_ f3_; have f4_ := f1_.symm; have f5_ := f3_.symm; clear f1_ f2_ f3_; subst f4_; subst f5_))
      refine hK.out _ _ ⟨(blk_cell BK117.out 0).trans rfl, (blk_cell BK101.out 0).trans rfl⟩ (fun hHeld => ?_)
      clear hK K
      refine norm_ (a' := ?_) ?_ ?_
      rotate_left
      ·
       show Act.put _ (some 54) _ = _
       simp only [Act.put, qc32_1, qc32_2, qc32_3, i64_w, i32_w]
       rfl
      refine one_ (i := 3) (N := some 55) #[true,true,true,true,false] rfl rfl (by kernel_rfl) (by decide) (fun K hK => ?_)
      refine goes_ Try.func61 (by kernel_rfl) rfl #[.agg #[.slice Ao26 t114.length co26], .agg #[.slice Ao77 t128.length co77]] (by rfl) rfl rfl (by (try simp only [List.map_toArray, List.map_cons, List.map_nil]); first | done | rfl | (simp only [List.length_drop, List.length_take]; rfl)) ?_
      with_reducible refine (laws_eqTasks.calls kj10 _ _ t114 _ _ t128 true _ ?side1 ?side2 ?side3 ?side4 A71.out).mono ?_
      (case side1 => repeat (first | exact (Kd.R_reads' HO_118000.out).2.2 | (with_reducible refine Kd.C_alloc ?_ _) | (with_reducible refine Kd.C_drewN ?_ _) | (with_reducible refine Kd.C_drew ?_)))
      (case side2 => exact (Kd.R_reads' HO_118000.out).2.1)
      (case side3 => repeat (first | exact (Kd.R_reads' HO130.out).2.2 | (with_reducible refine Kd.C_alloc ?_ _) | (with_reducible refine Kd.C_drewN ?_ _) | (with_reducible refine Kd.C_drew ?_)))
      (case side4 => exact (Kd.R_reads' HO130.out).2.1)
      rintro e w78 ⟨rfl, hb⟩
      refine ⟨_, rfl, ?_⟩
      have n0_ := Aside0.mk (Kd.R_below (by (with_reducible repeat first | apply qc32_4 | apply qc32_5 | apply qc32_6); exact HO_5.out) hb)
      have n1_ := Aside0.mk (Kd.R_below (by (with_reducible repeat first | apply qc32_4 | apply qc32_5 | apply qc32_6); exact HO_9.out) hb)
      have n2_ := Aside0.mk (Kd.R_below (by (with_reducible repeat first | apply qc32_4 | apply qc32_5 | apply qc32_6); exact HO_114000.out) hb)
      have n3_ := Aside0.mk (Kd.R_below (by (with_reducible repeat first | apply qc32_4 | apply qc32_5 | apply qc32_6); exact HO_118000.out) hb)
      have n4_ := Aside0.mk (Kd.R_below (by (with_reducible repeat first | apply qc32_4 | apply qc32_5 | apply qc32_6); exact HO_126000.out) hb)
      have n5_ := Aside0.mk (Kd.R_below (by (with_reducible repeat first | apply qc32_4 | apply qc32_5 | apply qc32_6); exact HO130.out) hb)
      have n6_ := Aside0.mk (blk_below (g := gb101) (o := .cells #[.slice A0_0 l0_0.length c0_0] 56 (0, 0)) (by (with_reducible repeat first | apply qc32_7 | apply qc32_8 | apply qc32_9); exact BK101.out) hb)
      have n7_ := Aside0.mk (blk_below (g := gb113) (o := .cells #[.slice Ao20 t106.length co20] 34 (0, 0)) (by (with_reducible repeat first | apply qc32_7 | apply qc32_8 | apply qc32_9); exact BK113.out) hb)
      have n8_ := Aside0.mk (blk_below (g := gb117) (o := .cells #[.slice Ao26 t114.length co26] 34 (0, 0)) (by (with_reducible repeat first | apply qc32_7 | apply qc32_8 | apply qc32_9); exact BK117.out) hb)
      have n9_ := Aside0.mk (blk_below (g := gb125) (o := .cells #[.slice Ao32 t118.length co32] 34 (0, 0)) (by (with_reducible repeat first | apply qc32_7 | apply qc32_8 | apply qc32_9); exact BK125.out) hb)
      have n10_ := Aside0.mk (below_step (by repeat (first | (with_reducible first | exact HB.out | apply below_alloc | apply pw_below_drewN | apply below_drew1 | refine below_set ?_ GE101.out | refine below_set ?_ GE113.out | refine below_set ?_ GE117.out | refine below_set ?_ GE125.out) | exact HB.out)) hb)
      clear HO_5
      clear HO_9
      clear HO_114000
      clear HO_118000
      clear HO_126000
      clear HO130
      clear BK101
      clear BK113
      clear BK117
      clear BK125
      clear HB
      have HO_5 := n0_
      have HO_9 := n1_
      have HO_114000 := n2_
      have HO_118000 := n3_
      have HO_126000 := n4_
      have HO130 := n5_
      have BK101 := n6_
      have BK113 := n7_
      have BK117 := n8_
      have BK125 := n9_
      have HB := n10_
      clear n0_ n1_ n2_ n3_ n4_ n5_ n6_ n7_ n8_ n9_ n10_
      (try clear hb)
      (try clear hb2)
      (try clear hk)
      (try clear hi)
      refine hK.out _ _ ⟨(blk_cell BK117.out 0).trans rfl, (blk_cell BK101.out 0).trans rfl⟩ (fun hHeld => ?_)
      clear hK K
      refine norm_ (a' := ?_) ?_ ?_
      rotate_left
      ·
       show Act.put _ (some 55) _ = _
       simp only [Act.put, qc32_1, qc32_2, qc32_3, i64_w, i32_w]
       rfl
      refine pure_ (i := 4) (N := some 56) (v := ?_) (a' := ?_) #[true,true,true,true,true] rfl rfl (by kernel_rfl) (fun _ _ _ h => h) (Or.inl ⟨by rfl, ?_⟩) ?_ ?_
      rotate_left; (· intro w'; go_simp; with_reducible rfl); rotate_left; (· simp only [Act.put, qc32_1, qc32_2, qc32_3, i64_w, i32_w]; rfl)
      refine done_ (by kernel_rfl) ?_
      have hnb79 := NB117_101.out
      have hnc79 := NB101_117.out
      have hnb80 := NB117_113.out
      have hnc80 := NB113_117.out
      have hnb81 := NB117_125.out
      have hnc81 := NB125_117.out
      have hcz82_0 : w78.cell? ⟨gb117, 0, none⟩ = some (.slice Ao26 t114.length co26) := (blk_cell BK117.out 0).trans rfl
      have hfz82_0 := blk_frozen BK117.out 0
      go_upto_region 14 with (first | ((with_reducible refine gate_callee (f := 63) rfl ?_); refine goesL_ (some 59) rfl rfl Try.func63 (by kernel_rfl) rfl #[.agg #[.slice Ao26 t114.length co26], .int .i64 1] rfl (by (try simp only [List.map_toArray, List.map_cons, List.map_nil]); first | done | rfl | (simp only [List.length_drop, List.length_take]; rfl)) ?_; (with_reducible refine (laws_markTasks.calls kj10 (fun k_ => some k_ = (.slice Ao26 t114.length co26 : Value).ownBlock) (.slice Ao26 t114.length co26) t114 1 t132 t133 w _ ?side1 ?side2 A73.out).mono ?_); (case side1 => repeat (first | (with_reducible first | exact HB.out | apply below_alloc | apply pw_below_drewN | apply below_drew1 | refine below_set ?_ GE101.out | refine below_set ?_ GE113.out | refine below_set ?_ GE117.out | refine below_set ?_ GE125.out) | exact HB.out)); (case side2 => exact Kd.R_tight rfl HO_118000.out); rintro e w83 ⟨rfl, hy0, hb, hkp⟩; refine ⟨_, rfl, ?_⟩; have n0_ := Aside0.mk (Kd.R_mono (ok' := fun k_ => some k_ ≠ (v122 : Value).ownBlock ∧ some k_ ≠ (.slice Ao20 t106.length co20 : Value).ownBlock ∧ some k_ ≠ (.slice Ao26 t114.length co26 : Value).ownBlock ∧ some k_ ≠ (.slice Ao32 t118.length co32 : Value).ownBlock ∧ some k_ ≠ (.slice Ao77 t128.length co77 : Value).ownBlock) (Kd.R_keptB (HO_5.out) hkp (fun k_ hk_ hs_ => (hk_.1.2.2.1) hs_)) (fun k_ hk_ => ⟨hk_.1.1.1, hk_.1.1.2.1, hk_.1.1.2.2.1, hk_.1.1.2.2.2, hk_.1.2⟩)); have n1_ := Aside0.mk (Kd.R_mono (ok' := fun k_ => some k_ ≠ (v110 : Value).ownBlock ∧ some k_ ≠ (.slice Ao20 t106.length co20 : Value).ownBlock ∧ some k_ ≠ (.slice Ao26 t114.length co26 : Value).ownBlock ∧ some k_ ≠ (.slice Ao32 t118.length co32 : Value).ownBlock ∧ some k_ ≠ (.slice Ao77 t128.length co77 : Value).ownBlock) (Kd.R_keptB (HO_9.out) hkp (fun k_ hk_ hs_ => (hk_.1.2.2.1) hs_)) (fun k_ hk_ => ⟨hk_.1.1.1, hk_.1.1.2.1, hk_.1.1.2.2.1, hk_.1.1.2.2.2, hk_.1.2⟩)); have n2_ := Aside0.mk (Kd.R_mono (ok' := fun k_ => some k_ ≠ (v110 : Value).ownBlock ∧ some k_ ≠ (v122 : Value).ownBlock ∧ some k_ ≠ (.slice Ao26 t114.length co26 : Value).ownBlock ∧ some k_ ≠ (.slice Ao32 t118.length co32 : Value).ownBlock ∧ some k_ ≠ (.slice Ao77 t128.length co77 : Value).ownBlock) (Kd.R_keptB (HO_114000.out) hkp (fun k_ hk_ hs_ => (hk_.1.2.2.1) hs_)) (fun k_ hk_ => ⟨hk_.1.1.1, hk_.1.1.2.1, hk_.1.1.2.2.1, hk_.1.1.2.2.2, hk_.1.2⟩)); have n3_ := Aside0.mk (Kd.R_reok rfl hy0 (fun k_ e_ => HO_118000.out.1 k_ e_)); have n4_ := Aside0.mk (Kd.R_mono (ok' := fun k_ => some k_ ≠ (v110 : Value).ownBlock ∧ some k_ ≠ (v122 : Value).ownBlock ∧ some k_ ≠ (.slice Ao20 t106.length co20 : Value).ownBlock ∧ some k_ ≠ (.slice Ao26 t114.length co26 : Value).ownBlock ∧ some k_ ≠ (.slice Ao77 t128.length co77 : Value).ownBlock) (Kd.R_keptB (HO_126000.out) hkp (fun k_ hk_ hs_ => (hk_.1.2.2.2) hs_)) (fun k_ hk_ => ⟨hk_.1.1.1, hk_.1.1.2.1, hk_.1.1.2.2.1, hk_.1.1.2.2.2, hk_.1.2⟩)); have n5_ := Aside0.mk (blk_kept (by (with_reducible repeat first | apply qc32_7 | apply qc32_8 | apply qc32_9); exact BK101.out) hkp (fun hs_ => (fun e_ => (Kd.R_ne HO_118000.out BK101.out (by decide)) e_) hs_)); have n6_ := Aside0.mk (blk_kept (by (with_reducible repeat first | apply qc32_7 | apply qc32_8 | apply qc32_9); exact BK113.out) hkp (fun hs_ => (fun e_ => (Kd.R_ne HO_118000.out BK113.out (by decide)) e_) hs_)); have n7_ := Aside0.mk (blk_kept (by (with_reducible repeat first | apply qc32_7 | apply qc32_8 | apply qc32_9); exact BK117.out) hkp (fun hs_ => (fun e_ => (Kd.R_ne HO_118000.out BK117.out (by decide)) e_) hs_)); have n8_ := Aside0.mk (blk_kept (by (with_reducible repeat first | apply qc32_7 | apply qc32_8 | apply qc32_9); exact BK125.out) hkp (fun hs_ => (fun e_ => (Kd.R_ne HO_118000.out BK125.out (by decide)) e_) hs_)); have n9_ := Aside0.mk (Kd.R_mono (ok' := fun k_ => some k_ ≠ (v110 : Value).ownBlock ∧ some k_ ≠ (v122 : Value).ownBlock ∧ some k_ ≠ (.slice Ao20 t106.length co20 : Value).ownBlock ∧ some k_ ≠ (.slice Ao26 t114.length co26 : Value).ownBlock ∧ some k_ ≠ (.slice Ao32 t118.length co32 : Value).ownBlock) (Kd.R_keptB (HO130.out) hkp (fun k_ hk_ hs_ => (hk_.1.2) hs_)) (fun k_ hk_ => ⟨hk_.1.1.1.1.1.2, hk_.1.1.1.1.2, hk_.1.1.1.2, hk_.1.1.2, hk_.1.2⟩)); have n10_ := Aside0.mk (hb); clear HO_5; clear HO_9; clear HO_114000; clear HO_118000; clear HO_126000; clear BK101; clear BK113; clear BK117; clear BK125; clear HO130; clear HB; have HO_5 := n0_; have HO_9 := n1_; have HO_114000 := n2_; have HO_118000 := n3_; have HO_126000 := n4_; have BK101 := n5_; have BK113 := n6_; have BK117 := n7_; have BK125 := n8_; have HO130 := n9_; have HB := n10_; clear n0_ n1_ n2_ n3_ n4_ n5_ n6_ n7_ n8_ n9_ n10_; (try clear hb); (try clear hkp); (try clear hy0)))
      (try simp only [Act.put, qc32_1, qc32_2, qc32_3])
      go_cut [78] (fun v78 wc => ∃ (kq : Nat) (x78_73 : Bool), v78 = .bool x78_73 ∧ Aside0 (laws_FnExactSortTasks.j1 kq t109 t112 t121 x78_73 l0_0 t106 t118 = some r) ∧ Aside0 (kq ≤ kj10) ∧ Aside0 (Kd.R (Kd.int .i64) 2 wc w.heap.size (fun k_ => some k_ ≠ (v122 : Value).ownBlock ∧ some k_ ≠ ((.slice Ao20 t106.length co20) : Value).ownBlock ∧ some k_ ≠ ((.slice Ao26 t114.length co26) : Value).ownBlock ∧ some k_ ≠ ((.slice Ao32 t118.length co32) : Value).ownBlock) v110 t109) ∧ Aside0 (Kd.R (Kd.int .i64) 2 wc w.heap.size (fun k_ => some k_ ≠ (v110 : Value).ownBlock ∧ some k_ ≠ ((.slice Ao20 t106.length co20) : Value).ownBlock ∧ some k_ ≠ ((.slice Ao26 t114.length co26) : Value).ownBlock ∧ some k_ ≠ ((.slice Ao32 t118.length co32) : Value).ownBlock) v122 t121) ∧ Aside0 (Kd.R (Kd.int .i64) 2 wc w.heap.size (fun k_ => some k_ ≠ (v110 : Value).ownBlock ∧ some k_ ≠ (v122 : Value).ownBlock ∧ some k_ ≠ ((.slice Ao26 t114.length co26) : Value).ownBlock ∧ some k_ ≠ ((.slice Ao32 t118.length co32) : Value).ownBlock) (.slice Ao20 t106.length co20) t106) ∧ Aside0 (Kd.R (Kd.int .i64) 2 wc w.heap.size (fun k_ => some k_ ≠ (v110 : Value).ownBlock ∧ some k_ ≠ (v122 : Value).ownBlock ∧ some k_ ≠ ((.slice Ao20 t106.length co20) : Value).ownBlock ∧ some k_ ≠ ((.slice Ao32 t118.length co32) : Value).ownBlock) (.slice Ao26 t114.length co26) t133) ∧ Aside0 (Kd.R (Kd.int .i64) 2 wc w.heap.size (fun k_ => some k_ ≠ (v110 : Value).ownBlock ∧ some k_ ≠ (v122 : Value).ownBlock ∧ some k_ ≠ ((.slice Ao20 t106.length co20) : Value).ownBlock ∧ some k_ ≠ ((.slice Ao26 t114.length co26) : Value).ownBlock) (.slice Ao32 t118.length co32) t118) ∧ Aside0 (wc.heap[gb101]? = some (.cells #[(.slice A0_0 l0_0.length c0_0)] 56 (0, 0))) ∧ Aside0 (wc.heap[gb113]? = some (.cells #[(.slice Ao20 t106.length co20)] 34 (0, 0))) ∧ Aside0 (wc.heap[gb117]? = some (.cells #[(.slice Ao26 t114.length co26)] 34 (0, 0))) ∧ Aside0 (wc.heap[gb125]? = some (.cells #[(.slice Ao32 t118.length co32)] 34 (0, 0))) ∧ Aside0 (Below w.heap.size w wc))
      case first =>
       have H := HC74.out
       clear HC74
       by_cases c84 : t132 < 0
       ·
        rw [if_pos c84] at H
        have c84b0 : decide (t132 < 0) = true := decide_eq_true c84
        clear c84
        (first | rw [c84b0] | (simp only [i64_w, i32_w]; rw [c84b0]) | skip)
        have H' := Aside0.mk H
        clear H
        go_wp2
        go_meet
        case rel => exact ⟨_, (true), (by first | rfl | simp), H', ⟨by have := HJ10.out; first | omega | exact Nat.le_refl _⟩, ⟨by (with_reducible repeat first | apply qc32_4 | apply qc32_5 | apply qc32_6); exact Kd.R_mono HO_5.out (fun _ hk => ⟨hk.1, ⟨hk.2.1, ⟨hk.2.2.1, hk.2.2.2.1⟩⟩⟩)⟩, ⟨by (with_reducible repeat first | apply qc32_4 | apply qc32_5 | apply qc32_6); exact Kd.R_mono HO_9.out (fun _ hk => ⟨hk.1, ⟨hk.2.1, ⟨hk.2.2.1, hk.2.2.2.1⟩⟩⟩)⟩, ⟨by (with_reducible repeat first | apply qc32_4 | apply qc32_5 | apply qc32_6); exact Kd.R_mono HO_114000.out (fun _ hk => ⟨hk.1, ⟨hk.2.1, ⟨hk.2.2.1, hk.2.2.2.1⟩⟩⟩)⟩, ⟨by (with_reducible repeat first | apply qc32_4 | apply qc32_5 | apply qc32_6); exact Kd.R_mono HO_118000.out (fun _ hk => ⟨hk.1.1, ⟨hk.1.2.1, ⟨hk.1.2.2.1, hk.1.2.2.2⟩⟩⟩)⟩, ⟨by (with_reducible repeat first | apply qc32_4 | apply qc32_5 | apply qc32_6); exact Kd.R_mono HO_126000.out (fun _ hk => ⟨hk.1, ⟨hk.2.1, ⟨hk.2.2.1, hk.2.2.2.1⟩⟩⟩)⟩, ⟨by (with_reducible repeat first | apply qc32_7 | apply qc32_8 | apply qc32_9); exact BK101.out⟩, ⟨by (with_reducible repeat first | apply qc32_7 | apply qc32_8 | apply qc32_9); exact BK113.out⟩, ⟨by (with_reducible repeat first | apply qc32_7 | apply qc32_8 | apply qc32_9); exact BK117.out⟩, ⟨by (with_reducible repeat first | apply qc32_7 | apply qc32_8 | apply qc32_9); exact BK125.out⟩, ⟨by repeat (first | (with_reducible first | exact HB.out | apply below_alloc | apply pw_below_drewN | apply below_drew1 | refine below_set ?_ GE101.out | refine below_set ?_ GE113.out | refine below_set ?_ GE117.out | refine below_set ?_ GE125.out) | exact HB.out)⟩⟩
       ·
        rw [if_neg c84] at H
        have c84b0 : decide (t132 < 0) = false := decide_eq_false c84
        clear c84
        (first | rw [c84b0] | (simp only [i64_w, i32_w]; rw [c84b0]) | skip)
        replace H := Option.bind_eq_some_iff.mp H
        obtain ⟨t134, A850, H⟩ := H
        replace H : (if t134 = true then ((laws_eqInt64S.f kj10 t121 t109).bind fun t135 => (if t135 = true then (laws_FnExactSortTasks.j1 kj10 t109 t112 t121 (t124 != t112) l0_0 t106 t118) else (laws_FnExactSortTasks.j1 kj10 t109 t112 t121 true l0_0 t106 t118))) else (laws_FnExactSortTasks.j1 kj10 t109 t112 t121 true l0_0 t106 t118)) = some r := H
        have A85 := Aside0.mk A850
        clear A850
        by_cases c86 : t134 = true
        ·
         subst c86
         have H1 : ((laws_eqInt64S.f kj10 t121 t109).bind fun t135 => (if t135 = true then (laws_FnExactSortTasks.j1 kj10 t109 t112 t121 (t124 != t112) l0_0 t106 t118) else (laws_FnExactSortTasks.j1 kj10 t109 t112 t121 true l0_0 t106 t118))) = some r := by rw [if_pos rfl] at H; exact H
         clear H
         have H := H1
         clear H1
         replace H := Option.bind_eq_some_iff.mp H
         obtain ⟨t135, A870, H⟩ := H
         replace H : (if t135 = true then (laws_FnExactSortTasks.j1 kj10 t109 t112 t121 (t124 != t112) l0_0 t106 t118) else (laws_FnExactSortTasks.j1 kj10 t109 t112 t121 true l0_0 t106 t118)) = some r := H
         have A87 := Aside0.mk A870
         clear A870
         by_cases c88 : t135 = true
         ·
          subst c88
          have H1 : (laws_FnExactSortTasks.j1 kj10 t109 t112 t121 (t124 != t112) l0_0 t106 t118) = some r := by rw [if_pos rfl] at H; exact H
          clear H
          have H := H1
          clear H1
          have H' := Aside0.mk H
          clear H
          have hnb89 := NB125_101.out
          have hnc89 := NB101_125.out
          have hnb90 := NB125_113.out
          have hnc90 := NB113_125.out
          have hnb91 := NB125_117.out
          have hnc91 := NB117_125.out
          have hcz92_0 : w83.cell? ⟨gb125, 0, none⟩ = some (.slice Ao32 t118.length co32) := (blk_cell BK125.out 0).trans rfl
          have hfz92_0 := blk_frozen BK125.out 0
          have hnb93 := NB113_101.out
          have hnc93 := NB101_113.out
          have hnb94 := NB113_117.out
          have hnc94 := NB117_113.out
          have hcz95_0 : w83.cell? ⟨gb113, 0, none⟩ = some (.slice Ao20 t106.length co20) := (blk_cell BK113.out 0).trans rfl
          have hfz95_0 := blk_frozen BK113.out 0
          go_wp2_with (first | (go_at_call 61; (with_reducible refine (laws_eqTasks.calls kj10 _ _ t118 _ _ t106 true _ ?side1 ?side2 ?side3 ?side4 A85.out).mono ?_); (case side1 => repeat (first | exact (Kd.R_reads' HO_126000.out).2.2 | (with_reducible refine Kd.C_alloc ?_ _) | (with_reducible refine Kd.C_drewN ?_ _) | (with_reducible refine Kd.C_drew ?_))); (case side2 => exact (Kd.R_reads' HO_126000.out).2.1); (case side3 => repeat (first | exact (Kd.R_reads' HO_114000.out).2.2 | (with_reducible refine Kd.C_alloc ?_ _) | (with_reducible refine Kd.C_drewN ?_ _) | (with_reducible refine Kd.C_drew ?_))); (case side4 => exact (Kd.R_reads' HO_114000.out).2.1); rintro e w96 ⟨rfl, hb⟩; have n0_ := Aside0.mk (Kd.R_below (by (with_reducible repeat first | apply qc32_4 | apply qc32_5 | apply qc32_6); exact HO_5.out) hb); have n1_ := Aside0.mk (Kd.R_below (by (with_reducible repeat first | apply qc32_4 | apply qc32_5 | apply qc32_6); exact HO_9.out) hb); have n2_ := Aside0.mk (Kd.R_below (by (with_reducible repeat first | apply qc32_4 | apply qc32_5 | apply qc32_6); exact HO_114000.out) hb); have n3_ := Aside0.mk (Kd.R_below (by (with_reducible repeat first | apply qc32_4 | apply qc32_5 | apply qc32_6); exact HO_118000.out) hb); have n4_ := Aside0.mk (Kd.R_below (by (with_reducible repeat first | apply qc32_4 | apply qc32_5 | apply qc32_6); exact HO_126000.out) hb); have n5_ := Aside0.mk (Kd.R_below (by (with_reducible repeat first | apply qc32_4 | apply qc32_5 | apply qc32_6); exact HO130.out) hb); have n6_ := Aside0.mk (blk_below (g := gb101) (o := .cells #[.slice A0_0 l0_0.length c0_0] 56 (0, 0)) (by (with_reducible repeat first | apply qc32_7 | apply qc32_8 | apply qc32_9); exact BK101.out) hb); have n7_ := Aside0.mk (blk_below (g := gb113) (o := .cells #[.slice Ao20 t106.length co20] 34 (0, 0)) (by (with_reducible repeat first | apply qc32_7 | apply qc32_8 | apply qc32_9); exact BK113.out) hb); have n8_ := Aside0.mk (blk_below (g := gb117) (o := .cells #[.slice Ao26 t114.length co26] 34 (0, 0)) (by (with_reducible repeat first | apply qc32_7 | apply qc32_8 | apply qc32_9); exact BK117.out) hb); have n9_ := Aside0.mk (blk_below (g := gb125) (o := .cells #[.slice Ao32 t118.length co32] 34 (0, 0)) (by (with_reducible repeat first | apply qc32_7 | apply qc32_8 | apply qc32_9); exact BK125.out) hb); have n10_ := Aside0.mk (below_step (by repeat (first | (with_reducible first | exact HB.out | apply below_alloc | apply pw_below_drewN | apply below_drew1 | refine below_set ?_ GE101.out | refine below_set ?_ GE113.out | refine below_set ?_ GE117.out | refine below_set ?_ GE125.out) | exact HB.out)) hb); clear HO_5; clear HO_9; clear HO_114000; clear HO_118000; clear HO_126000; clear HO130; clear BK101; clear BK113; clear BK117; clear BK125; clear HB; have HO_5 := n0_; have HO_9 := n1_; have HO_114000 := n2_; have HO_118000 := n3_; have HO_126000 := n4_; have HO130 := n5_; have BK101 := n6_; have BK113 := n7_; have BK117 := n8_; have BK125 := n9_; have HB := n10_; clear n0_ n1_ n2_ n3_ n4_ n5_ n6_ n7_ n8_ n9_ n10_; (try clear hb); (try clear hb2); (try clear hk); (try clear hi); obtain ⟨Ao97, co97, eo97⟩ := Kd.R_slice HO_9.out; subst eo97; obtain ⟨Ao98, co98, eo98⟩ := Kd.R_slice HO_5.out; subst eo98) | (go_at_call 62; (with_reducible refine (laws_eqInt64S.calls kj10 _ _ t121 _ _ t109 true _ ?side1 ?side2 ?side3 ?side4 A87.out).mono ?_); (case side1 => repeat (first | exact (Kd.R_reads' HO_9.out).2.2 | (with_reducible refine Kd.C_alloc ?_ _) | (with_reducible refine Kd.C_drewN ?_ _) | (with_reducible refine Kd.C_drew ?_))); (case side2 => exact (Kd.R_reads' HO_9.out).2.1); (case side3 => repeat (first | exact (Kd.R_reads' HO_5.out).2.2 | (with_reducible refine Kd.C_alloc ?_ _) | (with_reducible refine Kd.C_drewN ?_ _) | (with_reducible refine Kd.C_drew ?_))); (case side4 => exact (Kd.R_reads' HO_5.out).2.1); rintro e w' ⟨rfl, ⟨nd, rfl⟩⟩))
          go_meet
          case rel => exact ⟨_, ((t124 != t112)), (by first | rfl | simp), H', ⟨by have := HJ10.out; first | omega | exact Nat.le_refl _⟩, ⟨by (with_reducible repeat first | apply qc32_4 | apply qc32_5 | apply qc32_6); exact Kd.R_mono HO_5.out (fun _ hk => ⟨hk.1, ⟨hk.2.1, ⟨hk.2.2.1, hk.2.2.2.1⟩⟩⟩)⟩, ⟨by (with_reducible repeat first | apply qc32_4 | apply qc32_5 | apply qc32_6); exact Kd.R_mono HO_9.out (fun _ hk => ⟨hk.1, ⟨hk.2.1, ⟨hk.2.2.1, hk.2.2.2.1⟩⟩⟩)⟩, ⟨by (with_reducible repeat first | apply qc32_4 | apply qc32_5 | apply qc32_6); exact Kd.R_mono HO_114000.out (fun _ hk => ⟨hk.1, ⟨hk.2.1, ⟨hk.2.2.1, hk.2.2.2.1⟩⟩⟩)⟩, ⟨by (with_reducible repeat first | apply qc32_4 | apply qc32_5 | apply qc32_6); exact Kd.R_mono HO_118000.out (fun _ hk => ⟨hk.1.1, ⟨hk.1.2.1, ⟨hk.1.2.2.1, hk.1.2.2.2⟩⟩⟩)⟩, ⟨by (with_reducible repeat first | apply qc32_4 | apply qc32_5 | apply qc32_6); exact Kd.R_mono HO_126000.out (fun _ hk => ⟨hk.1, ⟨hk.2.1, ⟨hk.2.2.1, hk.2.2.2.1⟩⟩⟩)⟩, ⟨by (with_reducible repeat first | apply qc32_7 | apply qc32_8 | apply qc32_9); exact BK101.out⟩, ⟨by (with_reducible repeat first | apply qc32_7 | apply qc32_8 | apply qc32_9); exact BK113.out⟩, ⟨by (with_reducible repeat first | apply qc32_7 | apply qc32_8 | apply qc32_9); exact BK117.out⟩, ⟨by (with_reducible repeat first | apply qc32_7 | apply qc32_8 | apply qc32_9); exact BK125.out⟩, ⟨by repeat (first | (with_reducible first | exact HB.out | apply below_alloc | apply pw_below_drewN | apply below_drew1 | refine below_set ?_ GE101.out | refine below_set ?_ GE113.out | refine below_set ?_ GE117.out | refine below_set ?_ GE125.out) | exact HB.out)⟩⟩
         ·
          replace c88 := Bool.eq_false_iff.mpr c88
          subst c88
          have H1 : (laws_FnExactSortTasks.j1 kj10 t109 t112 t121 true l0_0 t106 t118) = some r := by rw [if_neg (show ¬ (false = true) by decide)] at H; exact H
          clear H
          have H := H1
          clear H1
          have H' := Aside0.mk H
          clear H
          have hnb99 := NB125_101.out
          have hnc99 := NB101_125.out
          have hnb100 := NB125_113.out
          have hnc100 := NB113_125.out
          have hnb101 := NB125_117.out
          have hnc101 := NB117_125.out
          have hcz102_0 : w83.cell? ⟨gb125, 0, none⟩ = some (.slice Ao32 t118.length co32) := (blk_cell BK125.out 0).trans rfl
          have hfz102_0 := blk_frozen BK125.out 0
          have hnb103 := NB113_101.out
          have hnc103 := NB101_113.out
          have hnb104 := NB113_117.out
          have hnc104 := NB117_113.out
          have hcz105_0 : w83.cell? ⟨gb113, 0, none⟩ = some (.slice Ao20 t106.length co20) := (blk_cell BK113.out 0).trans rfl
          have hfz105_0 := blk_frozen BK113.out 0
          go_wp2_with (first | (go_at_call 61; (with_reducible refine (laws_eqTasks.calls kj10 _ _ t118 _ _ t106 true _ ?side1 ?side2 ?side3 ?side4 A85.out).mono ?_); (case side1 => repeat (first | exact (Kd.R_reads' HO_126000.out).2.2 | (with_reducible refine Kd.C_alloc ?_ _) | (with_reducible refine Kd.C_drewN ?_ _) | (with_reducible refine Kd.C_drew ?_))); (case side2 => exact (Kd.R_reads' HO_126000.out).2.1); (case side3 => repeat (first | exact (Kd.R_reads' HO_114000.out).2.2 | (with_reducible refine Kd.C_alloc ?_ _) | (with_reducible refine Kd.C_drewN ?_ _) | (with_reducible refine Kd.C_drew ?_))); (case side4 => exact (Kd.R_reads' HO_114000.out).2.1); rintro e w106 ⟨rfl, hb⟩; have n0_ := Aside0.mk (Kd.R_below (by (with_reducible repeat first | apply qc32_4 | apply qc32_5 | apply qc32_6); exact HO_5.out) hb); have n1_ := Aside0.mk (Kd.R_below (by (with_reducible repeat first | apply qc32_4 | apply qc32_5 | apply qc32_6); exact HO_9.out) hb); have n2_ := Aside0.mk (Kd.R_below (by (with_reducible repeat first | apply qc32_4 | apply qc32_5 | apply qc32_6); exact HO_114000.out) hb); have n3_ := Aside0.mk (Kd.R_below (by (with_reducible repeat first | apply qc32_4 | apply qc32_5 | apply qc32_6); exact HO_118000.out) hb); have n4_ := Aside0.mk (Kd.R_below (by (with_reducible repeat first | apply qc32_4 | apply qc32_5 | apply qc32_6); exact HO_126000.out) hb); have n5_ := Aside0.mk (Kd.R_below (by (with_reducible repeat first | apply qc32_4 | apply qc32_5 | apply qc32_6); exact HO130.out) hb); have n6_ := Aside0.mk (blk_below (g := gb101) (o := .cells #[.slice A0_0 l0_0.length c0_0] 56 (0, 0)) (by (with_reducible repeat first | apply qc32_7 | apply qc32_8 | apply qc32_9); exact BK101.out) hb); have n7_ := Aside0.mk (blk_below (g := gb113) (o := .cells #[.slice Ao20 t106.length co20] 34 (0, 0)) (by (with_reducible repeat first | apply qc32_7 | apply qc32_8 | apply qc32_9); exact BK113.out) hb); have n8_ := Aside0.mk (blk_below (g := gb117) (o := .cells #[.slice Ao26 t114.length co26] 34 (0, 0)) (by (with_reducible repeat first | apply qc32_7 | apply qc32_8 | apply qc32_9); exact BK117.out) hb); have n9_ := Aside0.mk (blk_below (g := gb125) (o := .cells #[.slice Ao32 t118.length co32] 34 (0, 0)) (by (with_reducible repeat first | apply qc32_7 | apply qc32_8 | apply qc32_9); exact BK125.out) hb); have n10_ := Aside0.mk (below_step (by repeat (first | (with_reducible first | exact HB.out | apply below_alloc | apply pw_below_drewN | apply below_drew1 | refine below_set ?_ GE101.out | refine below_set ?_ GE113.out | refine below_set ?_ GE117.out | refine below_set ?_ GE125.out) | exact HB.out)) hb); clear HO_5; clear HO_9; clear HO_114000; clear HO_118000; clear HO_126000; clear HO130; clear BK101; clear BK113; clear BK117; clear BK125; clear HB; have HO_5 := n0_; have HO_9 := n1_; have HO_114000 := n2_; have HO_118000 := n3_; have HO_126000 := n4_; have HO130 := n5_; have BK101 := n6_; have BK113 := n7_; have BK117 := n8_; have BK125 := n9_; have HB := n10_; clear n0_ n1_ n2_ n3_ n4_ n5_ n6_ n7_ n8_ n9_ n10_; (try clear hb); (try clear hb2); (try clear hk); (try clear hi); obtain ⟨Ao107, co107, eo107⟩ := Kd.R_slice HO_9.out; subst eo107; obtain ⟨Ao108, co108, eo108⟩ := Kd.R_slice HO_5.out; subst eo108) | (go_at_call 62; (with_reducible refine (laws_eqInt64S.calls kj10 _ _ t121 _ _ t109 false _ ?side1 ?side2 ?side3 ?side4 A87.out).mono ?_); (case side1 => repeat (first | exact (Kd.R_reads' HO_9.out).2.2 | (with_reducible refine Kd.C_alloc ?_ _) | (with_reducible refine Kd.C_drewN ?_ _) | (with_reducible refine Kd.C_drew ?_))); (case side2 => exact (Kd.R_reads' HO_9.out).2.1); (case side3 => repeat (first | exact (Kd.R_reads' HO_5.out).2.2 | (with_reducible refine Kd.C_alloc ?_ _) | (with_reducible refine Kd.C_drewN ?_ _) | (with_reducible refine Kd.C_drew ?_))); (case side4 => exact (Kd.R_reads' HO_5.out).2.1); rintro e w' ⟨rfl, ⟨nd, rfl⟩⟩))
          go_meet
          case rel => exact ⟨_, (true), (by first | rfl | simp), H', ⟨by have := HJ10.out; first | omega | exact Nat.le_refl _⟩, ⟨by (with_reducible repeat first | apply qc32_4 | apply qc32_5 | apply qc32_6); exact Kd.R_mono HO_5.out (fun _ hk => ⟨hk.1, ⟨hk.2.1, ⟨hk.2.2.1, hk.2.2.2.1⟩⟩⟩)⟩, ⟨by (with_reducible repeat first | apply qc32_4 | apply qc32_5 | apply qc32_6); exact Kd.R_mono HO_9.out (fun _ hk => ⟨hk.1, ⟨hk.2.1, ⟨hk.2.2.1, hk.2.2.2.1⟩⟩⟩)⟩, ⟨by (with_reducible repeat first | apply qc32_4 | apply qc32_5 | apply qc32_6); exact Kd.R_mono HO_114000.out (fun _ hk => ⟨hk.1, ⟨hk.2.1, ⟨hk.2.2.1, hk.2.2.2.1⟩⟩⟩)⟩, ⟨by (with_reducible repeat first | apply qc32_4 | apply qc32_5 | apply qc32_6); exact Kd.R_mono HO_118000.out (fun _ hk => ⟨hk.1.1, ⟨hk.1.2.1, ⟨hk.1.2.2.1, hk.1.2.2.2⟩⟩⟩)⟩, ⟨by (with_reducible repeat first | apply qc32_4 | apply qc32_5 | apply qc32_6); exact Kd.R_mono HO_126000.out (fun _ hk => ⟨hk.1, ⟨hk.2.1, ⟨hk.2.2.1, hk.2.2.2.1⟩⟩⟩)⟩, ⟨by (with_reducible repeat first | apply qc32_7 | apply qc32_8 | apply qc32_9); exact BK101.out⟩, ⟨by (with_reducible repeat first | apply qc32_7 | apply qc32_8 | apply qc32_9); exact BK113.out⟩, ⟨by (with_reducible repeat first | apply qc32_7 | apply qc32_8 | apply qc32_9); exact BK117.out⟩, ⟨by (with_reducible repeat first | apply qc32_7 | apply qc32_8 | apply qc32_9); exact BK125.out⟩, ⟨by repeat (first | (with_reducible first | exact HB.out | apply below_alloc | apply pw_below_drewN | apply below_drew1 | refine below_set ?_ GE101.out | refine below_set ?_ GE113.out | refine below_set ?_ GE117.out | refine below_set ?_ GE125.out) | exact HB.out)⟩⟩
        ·
         replace c86 := Bool.eq_false_iff.mpr c86
         subst c86
         have H1 : (laws_FnExactSortTasks.j1 kj10 t109 t112 t121 true l0_0 t106 t118) = some r := by rw [if_neg (show ¬ (false = true) by decide)] at H; exact H
         clear H
         have H := H1
         clear H1
         have H' := Aside0.mk H
         clear H
         have hnb109 := NB125_101.out
         have hnc109 := NB101_125.out
         have hnb110 := NB125_113.out
         have hnc110 := NB113_125.out
         have hnb111 := NB125_117.out
         have hnc111 := NB117_125.out
         have hcz112_0 : w83.cell? ⟨gb125, 0, none⟩ = some (.slice Ao32 t118.length co32) := (blk_cell BK125.out 0).trans rfl
         have hfz112_0 := blk_frozen BK125.out 0
         have hnb113 := NB113_101.out
         have hnc113 := NB101_113.out
         have hnb114 := NB113_117.out
         have hnc114 := NB117_113.out
         have hcz115_0 : w83.cell? ⟨gb113, 0, none⟩ = some (.slice Ao20 t106.length co20) := (blk_cell BK113.out 0).trans rfl
         have hfz115_0 := blk_frozen BK113.out 0
         go_wp2_with (first | (go_at_call 61; (with_reducible refine (laws_eqTasks.calls kj10 _ _ t118 _ _ t106 false _ ?side1 ?side2 ?side3 ?side4 A85.out).mono ?_); (case side1 => repeat (first | exact (Kd.R_reads' HO_126000.out).2.2 | (with_reducible refine Kd.C_alloc ?_ _) | (with_reducible refine Kd.C_drewN ?_ _) | (with_reducible refine Kd.C_drew ?_))); (case side2 => exact (Kd.R_reads' HO_126000.out).2.1); (case side3 => repeat (first | exact (Kd.R_reads' HO_114000.out).2.2 | (with_reducible refine Kd.C_alloc ?_ _) | (with_reducible refine Kd.C_drewN ?_ _) | (with_reducible refine Kd.C_drew ?_))); (case side4 => exact (Kd.R_reads' HO_114000.out).2.1); rintro e w116 ⟨rfl, hb⟩; have n0_ := Aside0.mk (Kd.R_below (by (with_reducible repeat first | apply qc32_4 | apply qc32_5 | apply qc32_6); exact HO_5.out) hb); have n1_ := Aside0.mk (Kd.R_below (by (with_reducible repeat first | apply qc32_4 | apply qc32_5 | apply qc32_6); exact HO_9.out) hb); have n2_ := Aside0.mk (Kd.R_below (by (with_reducible repeat first | apply qc32_4 | apply qc32_5 | apply qc32_6); exact HO_114000.out) hb); have n3_ := Aside0.mk (Kd.R_below (by (with_reducible repeat first | apply qc32_4 | apply qc32_5 | apply qc32_6); exact HO_118000.out) hb); have n4_ := Aside0.mk (Kd.R_below (by (with_reducible repeat first | apply qc32_4 | apply qc32_5 | apply qc32_6); exact HO_126000.out) hb); have n5_ := Aside0.mk (Kd.R_below (by (with_reducible repeat first | apply qc32_4 | apply qc32_5 | apply qc32_6); exact HO130.out) hb); have n6_ := Aside0.mk (blk_below (g := gb101) (o := .cells #[.slice A0_0 l0_0.length c0_0] 56 (0, 0)) (by (with_reducible repeat first | apply qc32_7 | apply qc32_8 | apply qc32_9); exact BK101.out) hb); have n7_ := Aside0.mk (blk_below (g := gb113) (o := .cells #[.slice Ao20 t106.length co20] 34 (0, 0)) (by (with_reducible repeat first | apply qc32_7 | apply qc32_8 | apply qc32_9); exact BK113.out) hb); have n8_ := Aside0.mk (blk_below (g := gb117) (o := .cells #[.slice Ao26 t114.length co26] 34 (0, 0)) (by (with_reducible repeat first | apply qc32_7 | apply qc32_8 | apply qc32_9); exact BK117.out) hb); have n9_ := Aside0.mk (blk_below (g := gb125) (o := .cells #[.slice Ao32 t118.length co32] 34 (0, 0)) (by (with_reducible repeat first | apply qc32_7 | apply qc32_8 | apply qc32_9); exact BK125.out) hb); have n10_ := Aside0.mk (below_step (by repeat (first | (with_reducible first | exact HB.out | apply below_alloc | apply pw_below_drewN | apply below_drew1 | refine below_set ?_ GE101.out | refine below_set ?_ GE113.out | refine below_set ?_ GE117.out | refine below_set ?_ GE125.out) | exact HB.out)) hb); clear HO_5; clear HO_9; clear HO_114000; clear HO_118000; clear HO_126000; clear HO130; clear BK101; clear BK113; clear BK117; clear BK125; clear HB; have HO_5 := n0_; have HO_9 := n1_; have HO_114000 := n2_; have HO_118000 := n3_; have HO_126000 := n4_; have HO130 := n5_; have BK101 := n6_; have BK113 := n7_; have BK117 := n8_; have BK125 := n9_; have HB := n10_; clear n0_ n1_ n2_ n3_ n4_ n5_ n6_ n7_ n8_ n9_ n10_; (try clear hb); (try clear hb2); (try clear hk); (try clear hi)))
         go_meet
         case rel => exact ⟨_, (true), (by first | rfl | simp), H', ⟨by have := HJ10.out; first | omega | exact Nat.le_refl _⟩, ⟨by (with_reducible repeat first | apply qc32_4 | apply qc32_5 | apply qc32_6); exact Kd.R_mono HO_5.out (fun _ hk => ⟨hk.1, ⟨hk.2.1, ⟨hk.2.2.1, hk.2.2.2.1⟩⟩⟩)⟩, ⟨by (with_reducible repeat first | apply qc32_4 | apply qc32_5 | apply qc32_6); exact Kd.R_mono HO_9.out (fun _ hk => ⟨hk.1, ⟨hk.2.1, ⟨hk.2.2.1, hk.2.2.2.1⟩⟩⟩)⟩, ⟨by (with_reducible repeat first | apply qc32_4 | apply qc32_5 | apply qc32_6); exact Kd.R_mono HO_114000.out (fun _ hk => ⟨hk.1, ⟨hk.2.1, ⟨hk.2.2.1, hk.2.2.2.1⟩⟩⟩)⟩, ⟨by (with_reducible repeat first | apply qc32_4 | apply qc32_5 | apply qc32_6); exact Kd.R_mono HO_118000.out (fun _ hk => ⟨hk.1.1, ⟨hk.1.2.1, ⟨hk.1.2.2.1, hk.1.2.2.2⟩⟩⟩)⟩, ⟨by (with_reducible repeat first | apply qc32_4 | apply qc32_5 | apply qc32_6); exact Kd.R_mono HO_126000.out (fun _ hk => ⟨hk.1, ⟨hk.2.1, ⟨hk.2.2.1, hk.2.2.2.1⟩⟩⟩)⟩, ⟨by (with_reducible repeat first | apply qc32_7 | apply qc32_8 | apply qc32_9); exact BK101.out⟩, ⟨by (with_reducible repeat first | apply qc32_7 | apply qc32_8 | apply qc32_9); exact BK113.out⟩, ⟨by (with_reducible repeat first | apply qc32_7 | apply qc32_8 | apply qc32_9); exact BK117.out⟩, ⟨by (with_reducible repeat first | apply qc32_7 | apply qc32_8 | apply qc32_9); exact BK125.out⟩, ⟨by repeat (first | (with_reducible first | exact HB.out | apply below_alloc | apply pw_below_drewN | apply below_drew1 | refine below_set ?_ GE101.out | refine below_set ?_ GE113.out | refine below_set ?_ GE117.out | refine below_set ?_ GE125.out) | exact HB.out)⟩⟩
      case rest =>
       clear HC74
       try clear c1
       try clear c2
       try clear p2
       try clear c3
       try clear c3b0
       try clear c4
       try clear c5
       try clear c6
       try clear c7
       try clear c8
       try clear c9
       try clear c10
       try clear c11
       try clear c21
       try clear c27
       try clear c28
       try clear c33
       try clear c34
       try clear c35
       try clear c38
       try clear c40
       try clear c41
       try clear c42
       try clear c43
       try clear c45
       try clear c46
       try clear c51
       try clear c52
       try clear c53
       try clear c55
       try clear c56
       try clear c57
       try clear c58
       try clear c59
       try clear c60
       try clear c61
       try clear c62
       try clear c63
       try clear c65
       try clear c66
       try clear c69
       try clear c72
       try clear c79
       try clear c80
       try clear c81
       try clear c84
       try clear c84b0
       try clear c86
       try clear c88
       try clear c89
       try clear c90
       try clear c91
       try clear c93
       try clear c94
       try clear c99
       try clear c100
       try clear c101
       try clear c103
       try clear c104
       try clear c109
       try clear c110
       try clear c111
       try clear c113
       try clear c114
       try clear hcz102_0
       try clear hcz105_0
       try clear hcz112_0
       try clear hcz115_0
       try clear hcz13_0
       try clear hcz15_0
       try clear hcz22_0
       try clear hcz23_0
       try clear hcz29_0
       try clear hcz36_0
       try clear hcz44_0
       try clear hcz47_0
       try clear hcz54_0
       try clear hcz57_0
       try clear hcz5_0
       try clear hcz64_0
       try clear hcz67_0
       try clear hcz82_0
       try clear hcz92_0
       try clear hcz95_0
       try clear hfz102_0
       try clear hfz105_0
       try clear hfz112_0
       try clear hfz115_0
       try clear hfz13_0
       try clear hfz15_0
       try clear hfz22_0
       try clear hfz23_0
       try clear hfz29_0
       try clear hfz36_0
       try clear hfz44_0
       try clear hfz47_0
       try clear hfz54_0
       try clear hfz57_0
       try clear hfz5_0
       try clear hfz64_0
       try clear hfz67_0
       try clear hfz82_0
       try clear hfz92_0
       try clear hfz95_0
       try clear p2
       obtain ⟨kq, x78_73, rfl, HA, HJ73, HO_5, HO_9, HO_114000, HO_118000, HO_126000, BK101, BK113, BK117, BK125, HB⟩ := hcut
       have hl118000_73 := (Kd.R_reads' HO_118000.out).1
       rw [hl118000_73] at HO_118000
       (try simp only [hl118000_73])
       (try simp only [hl118000_73] at BK101)
       (try simp only [hl118000_73] at BK113)
       (try simp only [hl118000_73] at BK117)
       (try simp only [hl118000_73] at BK125)
       (try simp only [hl118000_73] at HO_5)
       (try simp only [hl118000_73] at HO_9)
       (try simp only [hl118000_73] at HO_114000)
       (try simp only [hl118000_73] at HO_126000)
       cases kq with
       | zero => exact absurd HA.out (by simp [laws_FnExactSortTasks.j1])
       | succ kj73 =>
        have H := HA.out
        clear HA
        simp only [laws_FnExactSortTasks.j1] at H
        by_cases c117 : x78_73 = true
        ·
         subst c117
         have H1 : (some false) = some r := by rw [if_pos rfl] at H; exact H
         clear H
         have H := H1
         clear H1
         obtain rfl := Option.some.inj H
         go_wp2
         go_ret
         exact ⟨by first | rfl | (simp [errW_none, errW_some] <;> rfl) | (simp [*, errW_none, errW_some] <;> rfl), by repeat (first | (with_reducible first | exact HB.out | apply below_alloc | apply pw_below_drewN | apply below_drew1 | refine below_set ?_ GE101.out | refine below_set ?_ GE113.out | refine below_set ?_ GE117.out | refine below_set ?_ GE125.out) | exact HB.out)⟩
        ·
         replace c117 := Bool.eq_false_iff.mpr c117
         subst c117
         have H1 : ((laws_markTasks.f kj73 t118 1).bind fun bt136 => ((laws_markInt64S.f kj73 t121 bt136.1).bind fun bt138 => ((laws_heldTasks.f kj73 bt136.2 1).bind fun t140 => (if t140 < 0 then (some false) else ((laws_heldInt64S.f kj73 bt138.2 t140).bind fun t141 => (if t141 < 0 then (some false) else (if t141 = bt138.1 then ((laws_toTasks.f kj73 l0_0).bind fun t142 => ((impl_SortTasks.f kj73 t142).bind fun bt145 => ((laws_eqTasks.f kj73 bt145.1 t106).bind fun t153 => (if t153 = true then ((laws_eqInt64S.f kj73 bt145.2.1 t109).bind fun t154 => (if t154 = true then (laws_FnExactSortTasks.j2 kj73 bt138.2 bt138.1 (bt145.2.2 != t112) bt136.2) else (laws_FnExactSortTasks.j2 kj73 bt138.2 bt138.1 true bt136.2))) else (laws_FnExactSortTasks.j2 kj73 bt138.2 bt138.1 true bt136.2))))) else (some false)))))))) = some r := by rw [if_neg (show ¬ (false = true) by decide)] at H; exact H
         clear H
         have H := H1
         clear H1
         replace H := Option.bind_eq_some_iff.mp H
         obtain ⟨⟨t136, t137⟩, A1180, H⟩ := H
         replace H : ((laws_markInt64S.f kj73 t121 t136).bind fun bt138 => ((laws_heldTasks.f kj73 t137 1).bind fun t140 => (if t140 < 0 then (some false) else ((laws_heldInt64S.f kj73 bt138.2 t140).bind fun t141 => (if t141 < 0 then (some false) else (if t141 = bt138.1 then ((laws_toTasks.f kj73 l0_0).bind fun t142 => ((impl_SortTasks.f kj73 t142).bind fun bt145 => ((laws_eqTasks.f kj73 bt145.1 t106).bind fun t153 => (if t153 = true then ((laws_eqInt64S.f kj73 bt145.2.1 t109).bind fun t154 => (if t154 = true then (laws_FnExactSortTasks.j2 kj73 bt138.2 bt138.1 (bt145.2.2 != t112) t137) else (laws_FnExactSortTasks.j2 kj73 bt138.2 bt138.1 true t137))) else (laws_FnExactSortTasks.j2 kj73 bt138.2 bt138.1 true t137))))) else (some false))))))) = some r := H
         have A118 := Aside0.mk A1180
         clear A1180
         replace H := Option.bind_eq_some_iff.mp H
         obtain ⟨⟨t138, t139⟩, A1190, H⟩ := H
         replace H : ((laws_heldTasks.f kj73 t137 1).bind fun t140 => (if t140 < 0 then (some false) else ((laws_heldInt64S.f kj73 t139 t140).bind fun t141 => (if t141 < 0 then (some false) else (if t141 = t138 then ((laws_toTasks.f kj73 l0_0).bind fun t142 => ((impl_SortTasks.f kj73 t142).bind fun bt145 => ((laws_eqTasks.f kj73 bt145.1 t106).bind fun t153 => (if t153 = true then ((laws_eqInt64S.f kj73 bt145.2.1 t109).bind fun t154 => (if t154 = true then (laws_FnExactSortTasks.j2 kj73 t139 t138 (bt145.2.2 != t112) t137) else (laws_FnExactSortTasks.j2 kj73 t139 t138 true t137))) else (laws_FnExactSortTasks.j2 kj73 t139 t138 true t137))))) else (some false)))))) = some r := H
         have A119 := Aside0.mk A1190
         clear A1190
         replace H := Option.bind_eq_some_iff.mp H
         obtain ⟨t140, A1200, H⟩ := H
         replace H : (if t140 < 0 then (some false) else ((laws_heldInt64S.f kj73 t139 t140).bind fun t141 => (if t141 < 0 then (some false) else (if t141 = t138 then ((laws_toTasks.f kj73 l0_0).bind fun t142 => ((impl_SortTasks.f kj73 t142).bind fun bt145 => ((laws_eqTasks.f kj73 bt145.1 t106).bind fun t153 => (if t153 = true then ((laws_eqInt64S.f kj73 bt145.2.1 t109).bind fun t154 => (if t154 = true then (laws_FnExactSortTasks.j2 kj73 t139 t138 (bt145.2.2 != t112) t137) else (laws_FnExactSortTasks.j2 kj73 t139 t138 true t137))) else (laws_FnExactSortTasks.j2 kj73 t139 t138 true t137))))) else (some false))))) = some r := H
         have A120 := Aside0.mk A1200
         clear A1200
         by_cases c121 : t140 < 0
         ·
          rw [if_pos c121] at H
          have c121b0 : decide (t140 < 0) = true := decide_eq_true c121
          clear c121
          obtain rfl := Option.some.inj H
          have hnb122 := NB125_101.out
          have hnc122 := NB101_125.out
          have hnb123 := NB125_113.out
          have hnc123 := NB113_125.out
          have hnb124 := NB125_117.out
          have hnc124 := NB117_125.out
          have hcz125_0 : wc.cell? ⟨gb125, 0, none⟩ = some (.slice Ao32 t118.length co32) := (blk_cell BK125.out 0).trans rfl
          have hfz125_0 := blk_frozen BK125.out 0
          go_wp2_with (first | ((with_reducible refine gate_callee (f := 63) rfl ?_); refine goesL_ (some 81) rfl rfl Try.func63 (by kernel_rfl) rfl #[.agg #[.slice Ao32 t118.length co32], .int .i64 1] rfl (by (try simp only [List.map_toArray, List.map_cons, List.map_nil]); first | done | rfl | (simp only [List.length_drop, List.length_take]; rfl)) ?_; (with_reducible refine (laws_markTasks.calls kj73 (fun k_ => some k_ = (.slice Ao32 t118.length co32 : Value).ownBlock) (.slice Ao32 t118.length co32) t118 1 t136 t137 w _ ?side1 ?side2 A118.out).mono ?_); (case side1 => repeat (first | (with_reducible first | exact HB.out | apply below_alloc | apply pw_below_drewN | apply below_drew1 | refine below_set ?_ GE101.out | refine below_set ?_ GE113.out | refine below_set ?_ GE117.out | refine below_set ?_ GE125.out) | exact HB.out)); (case side2 => exact Kd.R_tight rfl HO_126000.out); rintro e w126 ⟨rfl, hy0, hb, hkp⟩; refine ⟨_, rfl, ?_⟩; have n0_ := Aside0.mk (Kd.R_mono (ok' := fun k_ => some k_ ≠ (v122 : Value).ownBlock ∧ some k_ ≠ (.slice Ao20 t106.length co20 : Value).ownBlock ∧ some k_ ≠ (.slice Ao26 t133.length co26 : Value).ownBlock ∧ some k_ ≠ (.slice Ao32 t118.length co32 : Value).ownBlock) (Kd.R_keptB (HO_5.out) hkp (fun k_ hk_ hs_ => (hk_.2.2.2) hs_)) (fun k_ hk_ => ⟨hk_.1.1, hk_.1.2.1, hk_.1.2.2.1, hk_.1.2.2.2⟩)); have n1_ := Aside0.mk (Kd.R_mono (ok' := fun k_ => some k_ ≠ (v110 : Value).ownBlock ∧ some k_ ≠ (.slice Ao20 t106.length co20 : Value).ownBlock ∧ some k_ ≠ (.slice Ao26 t133.length co26 : Value).ownBlock ∧ some k_ ≠ (.slice Ao32 t118.length co32 : Value).ownBlock) (Kd.R_keptB (HO_9.out) hkp (fun k_ hk_ hs_ => (hk_.2.2.2) hs_)) (fun k_ hk_ => ⟨hk_.1.1, hk_.1.2.1, hk_.1.2.2.1, hk_.1.2.2.2⟩)); have n2_ := Aside0.mk (Kd.R_mono (ok' := fun k_ => some k_ ≠ (v110 : Value).ownBlock ∧ some k_ ≠ (v122 : Value).ownBlock ∧ some k_ ≠ (.slice Ao26 t133.length co26 : Value).ownBlock ∧ some k_ ≠ (.slice Ao32 t118.length co32 : Value).ownBlock) (Kd.R_keptB (HO_114000.out) hkp (fun k_ hk_ hs_ => (hk_.2.2.2) hs_)) (fun k_ hk_ => ⟨hk_.1.1, hk_.1.2.1, hk_.1.2.2.1, hk_.1.2.2.2⟩)); have n3_ := Aside0.mk (Kd.R_mono (ok' := fun k_ => some k_ ≠ (v110 : Value).ownBlock ∧ some k_ ≠ (v122 : Value).ownBlock ∧ some k_ ≠ (.slice Ao20 t106.length co20 : Value).ownBlock ∧ some k_ ≠ (.slice Ao32 t118.length co32 : Value).ownBlock) (Kd.R_keptB (HO_118000.out) hkp (fun k_ hk_ hs_ => (hk_.2.2.2) hs_)) (fun k_ hk_ => ⟨hk_.1.1, hk_.1.2.1, hk_.1.2.2.1, hk_.1.2.2.2⟩)); have n4_ := Aside0.mk (Kd.R_reok rfl hy0 (fun k_ e_ => HO_126000.out.1 k_ e_)); have n5_ := Aside0.mk (blk_kept (by (with_reducible repeat first | apply qc32_7 | apply qc32_8 | apply qc32_9); exact BK101.out) hkp (fun hs_ => (fun e_ => (Kd.R_ne HO_126000.out BK101.out (by decide)) e_) hs_)); have n6_ := Aside0.mk (blk_kept (by (with_reducible repeat first | apply qc32_7 | apply qc32_8 | apply qc32_9); exact BK113.out) hkp (fun hs_ => (fun e_ => (Kd.R_ne HO_126000.out BK113.out (by decide)) e_) hs_)); have n7_ := Aside0.mk (blk_kept (by (with_reducible repeat first | apply qc32_7 | apply qc32_8 | apply qc32_9); exact BK117.out) hkp (fun hs_ => (fun e_ => (Kd.R_ne HO_126000.out BK117.out (by decide)) e_) hs_)); have n8_ := Aside0.mk (blk_kept (by (with_reducible repeat first | apply qc32_7 | apply qc32_8 | apply qc32_9); exact BK125.out) hkp (fun hs_ => (fun e_ => (Kd.R_ne HO_126000.out BK125.out (by decide)) e_) hs_)); have n9_ := Aside0.mk (hb); clear HO_5; clear HO_9; clear HO_114000; clear HO_118000; clear HO_126000; clear BK101; clear BK113; clear BK117; clear BK125; clear HB; have HO_5 := n0_; have HO_9 := n1_; have HO_114000 := n2_; have HO_118000 := n3_; have HO_126000 := n4_; have BK101 := n5_; have BK113 := n6_; have BK117 := n7_; have BK125 := n8_; have HB := n9_; clear n0_ n1_ n2_ n3_ n4_ n5_ n6_ n7_ n8_ n9_; (try clear hb); (try clear hkp); (try clear hy0); obtain ⟨Ao127, co127, eo127⟩ := Kd.R_slice HO_9.out; subst eo127) | ((with_reducible refine gate_callee (f := 64) rfl ?_); refine goesL_ (some 84) rfl rfl Try.func64 (by kernel_rfl) rfl #[.slice Ao127 t121.length co127, .int .i64 t136] rfl (by (try simp only [List.map_toArray, List.map_cons, List.map_nil]); first | done | rfl | (simp only [List.length_drop, List.length_take]; rfl)) ?_; (with_reducible refine (laws_markInt64S.calls kj73 (fun k_ => some k_ = (.slice Ao127 t121.length co127 : Value).ownBlock) (.slice Ao127 t121.length co127) t121 t136 t138 t139 w _ ?side1 ?side2 A119.out).mono ?_); (case side1 => repeat (first | (with_reducible first | exact HB.out | apply below_alloc | apply pw_below_drewN | apply below_drew1 | refine below_set ?_ GE101.out | refine below_set ?_ GE113.out | refine below_set ?_ GE117.out | refine below_set ?_ GE125.out) | exact HB.out)); (case side2 => exact Kd.R_tight rfl HO_9.out); rintro e w128 ⟨rfl, hy0, hb, hkp⟩; refine ⟨_, rfl, ?_⟩; have n0_ := Aside0.mk (Kd.R_mono (ok' := fun k_ => some k_ ≠ (.slice Ao127 t121.length co127 : Value).ownBlock ∧ some k_ ≠ (.slice Ao20 t106.length co20 : Value).ownBlock ∧ some k_ ≠ (.slice Ao26 t133.length co26 : Value).ownBlock ∧ some k_ ≠ (.slice Ao32 t118.length co32 : Value).ownBlock) (Kd.R_keptB (HO_5.out) hkp (fun k_ hk_ hs_ => (hk_.1) hs_)) (fun k_ hk_ => ⟨hk_.1.1, hk_.1.2.1, hk_.1.2.2.1, hk_.1.2.2.2⟩)); have n1_ := Aside0.mk (Kd.R_reok rfl hy0 (fun k_ e_ => HO_9.out.1 k_ e_)); have n2_ := Aside0.mk (Kd.R_mono (ok' := fun k_ => some k_ ≠ (v110 : Value).ownBlock ∧ some k_ ≠ (.slice Ao127 t121.length co127 : Value).ownBlock ∧ some k_ ≠ (.slice Ao26 t133.length co26 : Value).ownBlock ∧ some k_ ≠ (.slice Ao32 t118.length co32 : Value).ownBlock) (Kd.R_keptB (HO_114000.out) hkp (fun k_ hk_ hs_ => (hk_.2.1) hs_)) (fun k_ hk_ => ⟨hk_.1.1, hk_.1.2.1, hk_.1.2.2.1, hk_.1.2.2.2⟩)); have n3_ := Aside0.mk (Kd.R_mono (ok' := fun k_ => some k_ ≠ (v110 : Value).ownBlock ∧ some k_ ≠ (.slice Ao127 t121.length co127 : Value).ownBlock ∧ some k_ ≠ (.slice Ao20 t106.length co20 : Value).ownBlock ∧ some k_ ≠ (.slice Ao32 t118.length co32 : Value).ownBlock) (Kd.R_keptB (HO_118000.out) hkp (fun k_ hk_ hs_ => (hk_.2.1) hs_)) (fun k_ hk_ => ⟨hk_.1.1, hk_.1.2.1, hk_.1.2.2.1, hk_.1.2.2.2⟩)); have n4_ := Aside0.mk (Kd.R_mono (ok' := fun k_ => some k_ ≠ (v110 : Value).ownBlock ∧ some k_ ≠ (.slice Ao127 t121.length co127 : Value).ownBlock ∧ some k_ ≠ (.slice Ao20 t106.length co20 : Value).ownBlock ∧ some k_ ≠ (.slice Ao26 t133.length co26 : Value).ownBlock) (Kd.R_keptB (HO_126000.out) hkp (fun k_ hk_ hs_ => (hk_.2.1) hs_)) (fun k_ hk_ => ⟨hk_.1.1, hk_.1.2.1, hk_.1.2.2.1, hk_.1.2.2.2⟩)); have n5_ := Aside0.mk (blk_kept (by (with_reducible repeat first | apply qc32_7 | apply qc32_8 | apply qc32_9); exact BK101.out) hkp (fun hs_ => (fun e_ => (Kd.R_ne HO_9.out BK101.out (by decide)) e_) hs_)); have n6_ := Aside0.mk (blk_kept (by (with_reducible repeat first | apply qc32_7 | apply qc32_8 | apply qc32_9); exact BK113.out) hkp (fun hs_ => (fun e_ => (Kd.R_ne HO_9.out BK113.out (by decide)) e_) hs_)); have n7_ := Aside0.mk (blk_kept (by (with_reducible repeat first | apply qc32_7 | apply qc32_8 | apply qc32_9); exact BK117.out) hkp (fun hs_ => (fun e_ => (Kd.R_ne HO_9.out BK117.out (by decide)) e_) hs_)); have n8_ := Aside0.mk (blk_kept (by (with_reducible repeat first | apply qc32_7 | apply qc32_8 | apply qc32_9); exact BK125.out) hkp (fun hs_ => (fun e_ => (Kd.R_ne HO_9.out BK125.out (by decide)) e_) hs_)); have n9_ := Aside0.mk (hb); clear HO_5; clear HO_9; clear HO_114000; clear HO_118000; clear HO_126000; clear BK101; clear BK113; clear BK117; clear BK125; clear HB; have HO_5 := n0_; have HO_9 := n1_; have HO_114000 := n2_; have HO_118000 := n3_; have HO_126000 := n4_; have BK101 := n5_; have BK113 := n6_; have BK117 := n7_; have BK125 := n8_; have HB := n9_; clear n0_ n1_ n2_ n3_ n4_ n5_ n6_ n7_ n8_ n9_; (try clear hb); (try clear hkp); (try clear hy0); have hcz129_0 : w128.cell? ⟨gb125, 0, none⟩ = some (.slice Ao32 t118.length co32) := (blk_cell BK125.out 0).trans rfl; have hfz129_0 := blk_frozen BK125.out 0) | ((with_reducible refine gate_callee (f := 65) rfl ?_); refine goesL_ (some 87) rfl rfl Try.func65 (by kernel_rfl) rfl #[.agg #[.slice Ao32 t137.length co32], .int .i64 1] rfl (by (try simp only [List.map_toArray, List.map_cons, List.map_nil]); first | done | (rw [show t137.length = t118.length from (Kd.R_reads' HO_126000.out).1.symm] <;> rfl) | rfl | (simp only [List.length_drop, List.length_take]; rfl)) ?_; (with_reducible refine (laws_heldTasks.calls kj73 _ _ t137 1 t140 _ ?side1 ?side2 A120.out).mono ?_); (case side1 => repeat (first | exact (Kd.R_reads' HO_126000.out).2.2 | (with_reducible refine Kd.C_alloc ?_ _) | (with_reducible refine Kd.C_drewN ?_ _) | (with_reducible refine Kd.C_drew ?_))); (case side2 => rw [show t137.length = t118.length from (Kd.R_reads' HO_126000.out).1.symm]; exact (Kd.R_reads' HO_126000.out).2.1); rintro e w130 ⟨rfl, hb⟩; refine ⟨_, rfl, ?_⟩; have n0_ := Aside0.mk (Kd.R_below (by (with_reducible repeat first | apply qc32_4 | apply qc32_5 | apply qc32_6); exact HO_5.out) hb); have n1_ := Aside0.mk (Kd.R_below (by (with_reducible repeat first | apply qc32_4 | apply qc32_5 | apply qc32_6); exact HO_9.out) hb); have n2_ := Aside0.mk (Kd.R_below (by (with_reducible repeat first | apply qc32_4 | apply qc32_5 | apply qc32_6); exact HO_114000.out) hb); have n3_ := Aside0.mk (Kd.R_below (by (with_reducible repeat first | apply qc32_4 | apply qc32_5 | apply qc32_6); exact HO_118000.out) hb); have n4_ := Aside0.mk (Kd.R_below (by (with_reducible repeat first | apply qc32_4 | apply qc32_5 | apply qc32_6); exact HO_126000.out) hb); have n5_ := Aside0.mk (blk_below (g := gb101) (o := .cells #[.slice A0_0 l0_0.length c0_0] 56 (0, 0)) (by (with_reducible repeat first | apply qc32_7 | apply qc32_8 | apply qc32_9); exact BK101.out) hb); have n6_ := Aside0.mk (blk_below (g := gb113) (o := .cells #[.slice Ao20 t106.length co20] 34 (0, 0)) (by (with_reducible repeat first | apply qc32_7 | apply qc32_8 | apply qc32_9); exact BK113.out) hb); have n7_ := Aside0.mk (blk_below (g := gb117) (o := .cells #[.slice Ao26 t133.length co26] 34 (0, 0)) (by (with_reducible repeat first | apply qc32_7 | apply qc32_8 | apply qc32_9); exact BK117.out) hb); have n8_ := Aside0.mk (blk_below (g := gb125) (o := .cells #[.slice Ao32 t118.length co32] 34 (0, 0)) (by (with_reducible repeat first | apply qc32_7 | apply qc32_8 | apply qc32_9); exact BK125.out) hb); have n9_ := Aside0.mk (below_step (by repeat (first | (with_reducible first | exact HB.out | apply below_alloc | apply pw_below_drewN | apply below_drew1 | refine below_set ?_ GE101.out | refine below_set ?_ GE113.out | refine below_set ?_ GE117.out | refine below_set ?_ GE125.out) | exact HB.out)) hb); clear HO_5; clear HO_9; clear HO_114000; clear HO_118000; clear HO_126000; clear BK101; clear BK113; clear BK117; clear BK125; clear HB; have HO_5 := n0_; have HO_9 := n1_; have HO_114000 := n2_; have HO_118000 := n3_; have HO_126000 := n4_; have BK101 := n5_; have BK113 := n6_; have BK117 := n7_; have BK125 := n8_; have HB := n9_; clear n0_ n1_ n2_ n3_ n4_ n5_ n6_ n7_ n8_ n9_; (try clear hb); (try clear hb2); (try clear hk); (try clear hi)))
          go_ret
          exact ⟨by first | rfl | (simp [errW_none, errW_some] <;> rfl) | (simp [*, errW_none, errW_some] <;> rfl), by repeat (first | (with_reducible first | exact HB.out | apply below_alloc | apply pw_below_drewN | apply below_drew1 | refine below_set ?_ GE101.out | refine below_set ?_ GE113.out | refine below_set ?_ GE117.out | refine below_set ?_ GE125.out) | exact HB.out)⟩
         ·
          rw [if_neg c121] at H
          have c121b0 : decide (t140 < 0) = false := decide_eq_false c121
          clear c121
          replace H := Option.bind_eq_some_iff.mp H
          obtain ⟨t141, A1310, H⟩ := H
          replace H : (if t141 < 0 then (some false) else (if t141 = t138 then ((laws_toTasks.f kj73 l0_0).bind fun t142 => ((impl_SortTasks.f kj73 t142).bind fun bt145 => ((laws_eqTasks.f kj73 bt145.1 t106).bind fun t153 => (if t153 = true then ((laws_eqInt64S.f kj73 bt145.2.1 t109).bind fun t154 => (if t154 = true then (laws_FnExactSortTasks.j2 kj73 t139 t138 (bt145.2.2 != t112) t137) else (laws_FnExactSortTasks.j2 kj73 t139 t138 true t137))) else (laws_FnExactSortTasks.j2 kj73 t139 t138 true t137))))) else (some false))) = some r := H
          have A131 := Aside0.mk A1310
          clear A1310
          by_cases c132 : t141 < 0
          ·
           rw [if_pos c132] at H
           have c132b0 : decide (t141 < 0) = true := decide_eq_true c132
           clear c132
           obtain rfl := Option.some.inj H
           have hnb133 := NB125_101.out
           have hnc133 := NB101_125.out
           have hnb134 := NB125_113.out
           have hnc134 := NB113_125.out
           have hnb135 := NB125_117.out
           have hnc135 := NB117_125.out
           have hcz136_0 : wc.cell? ⟨gb125, 0, none⟩ = some (.slice Ao32 t118.length co32) := (blk_cell BK125.out 0).trans rfl
           have hfz136_0 := blk_frozen BK125.out 0
           go_wp2_with (first | ((with_reducible refine gate_callee (f := 63) rfl ?_); refine goesL_ (some 81) rfl rfl Try.func63 (by kernel_rfl) rfl #[.agg #[.slice Ao32 t118.length co32], .int .i64 1] rfl (by (try simp only [List.map_toArray, List.map_cons, List.map_nil]); first | done | rfl | (simp only [List.length_drop, List.length_take]; rfl)) ?_; (with_reducible refine (laws_markTasks.calls kj73 (fun k_ => some k_ = (.slice Ao32 t118.length co32 : Value).ownBlock) (.slice Ao32 t118.length co32) t118 1 t136 t137 w _ ?side1 ?side2 A118.out).mono ?_); (case side1 => repeat (first | (with_reducible first | exact HB.out | apply below_alloc | apply pw_below_drewN | apply below_drew1 | refine below_set ?_ GE101.out | refine below_set ?_ GE113.out | refine below_set ?_ GE117.out | refine below_set ?_ GE125.out) | exact HB.out)); (case side2 => exact Kd.R_tight rfl HO_126000.out); rintro e w137 ⟨rfl, hy0, hb, hkp⟩; refine ⟨_, rfl, ?_⟩; have n0_ := Aside0.mk (Kd.R_mono (ok' := fun k_ => some k_ ≠ (v122 : Value).ownBlock ∧ some k_ ≠ (.slice Ao20 t106.length co20 : Value).ownBlock ∧ some k_ ≠ (.slice Ao26 t133.length co26 : Value).ownBlock ∧ some k_ ≠ (.slice Ao32 t118.length co32 : Value).ownBlock) (Kd.R_keptB (HO_5.out) hkp (fun k_ hk_ hs_ => (hk_.2.2.2) hs_)) (fun k_ hk_ => ⟨hk_.1.1, hk_.1.2.1, hk_.1.2.2.1, hk_.1.2.2.2⟩)); have n1_ := Aside0.mk (Kd.R_mono (ok' := fun k_ => some k_ ≠ (v110 : Value).ownBlock ∧ some k_ ≠ (.slice Ao20 t106.length co20 : Value).ownBlock ∧ some k_ ≠ (.slice Ao26 t133.length co26 : Value).ownBlock ∧ some k_ ≠ (.slice Ao32 t118.length co32 : Value).ownBlock) (Kd.R_keptB (HO_9.out) hkp (fun k_ hk_ hs_ => (hk_.2.2.2) hs_)) (fun k_ hk_ => ⟨hk_.1.1, hk_.1.2.1, hk_.1.2.2.1, hk_.1.2.2.2⟩)); have n2_ := Aside0.mk (Kd.R_mono (ok' := fun k_ => some k_ ≠ (v110 : Value).ownBlock ∧ some k_ ≠ (v122 : Value).ownBlock ∧ some k_ ≠ (.slice Ao26 t133.length co26 : Value).ownBlock ∧ some k_ ≠ (.slice Ao32 t118.length co32 : Value).ownBlock) (Kd.R_keptB (HO_114000.out) hkp (fun k_ hk_ hs_ => (hk_.2.2.2) hs_)) (fun k_ hk_ => ⟨hk_.1.1, hk_.1.2.1, hk_.1.2.2.1, hk_.1.2.2.2⟩)); have n3_ := Aside0.mk (Kd.R_mono (ok' := fun k_ => some k_ ≠ (v110 : Value).ownBlock ∧ some k_ ≠ (v122 : Value).ownBlock ∧ some k_ ≠ (.slice Ao20 t106.length co20 : Value).ownBlock ∧ some k_ ≠ (.slice Ao32 t118.length co32 : Value).ownBlock) (Kd.R_keptB (HO_118000.out) hkp (fun k_ hk_ hs_ => (hk_.2.2.2) hs_)) (fun k_ hk_ => ⟨hk_.1.1, hk_.1.2.1, hk_.1.2.2.1, hk_.1.2.2.2⟩)); have n4_ := Aside0.mk (Kd.R_reok rfl hy0 (fun k_ e_ => HO_126000.out.1 k_ e_)); have n5_ := Aside0.mk (blk_kept (by (with_reducible repeat first | apply qc32_7 | apply qc32_8 | apply qc32_9); exact BK101.out) hkp (fun hs_ => (fun e_ => (Kd.R_ne HO_126000.out BK101.out (by decide)) e_) hs_)); have n6_ := Aside0.mk (blk_kept (by (with_reducible repeat first | apply qc32_7 | apply qc32_8 | apply qc32_9); exact BK113.out) hkp (fun hs_ => (fun e_ => (Kd.R_ne HO_126000.out BK113.out (by decide)) e_) hs_)); have n7_ := Aside0.mk (blk_kept (by (with_reducible repeat first | apply qc32_7 | apply qc32_8 | apply qc32_9); exact BK117.out) hkp (fun hs_ => (fun e_ => (Kd.R_ne HO_126000.out BK117.out (by decide)) e_) hs_)); have n8_ := Aside0.mk (blk_kept (by (with_reducible repeat first | apply qc32_7 | apply qc32_8 | apply qc32_9); exact BK125.out) hkp (fun hs_ => (fun e_ => (Kd.R_ne HO_126000.out BK125.out (by decide)) e_) hs_)); have n9_ := Aside0.mk (hb); clear HO_5; clear HO_9; clear HO_114000; clear HO_118000; clear HO_126000; clear BK101; clear BK113; clear BK117; clear BK125; clear HB; have HO_5 := n0_; have HO_9 := n1_; have HO_114000 := n2_; have HO_118000 := n3_; have HO_126000 := n4_; have BK101 := n5_; have BK113 := n6_; have BK117 := n7_; have BK125 := n8_; have HB := n9_; clear n0_ n1_ n2_ n3_ n4_ n5_ n6_ n7_ n8_ n9_; (try clear hb); (try clear hkp); (try clear hy0); obtain ⟨Ao138, co138, eo138⟩ := Kd.R_slice HO_9.out; subst eo138) | ((with_reducible refine gate_callee (f := 64) rfl ?_); refine goesL_ (some 84) rfl rfl Try.func64 (by kernel_rfl) rfl #[.slice Ao138 t121.length co138, .int .i64 t136] rfl (by (try simp only [List.map_toArray, List.map_cons, List.map_nil]); first | done | rfl | (simp only [List.length_drop, List.length_take]; rfl)) ?_; (with_reducible refine (laws_markInt64S.calls kj73 (fun k_ => some k_ = (.slice Ao138 t121.length co138 : Value).ownBlock) (.slice Ao138 t121.length co138) t121 t136 t138 t139 w _ ?side1 ?side2 A119.out).mono ?_); (case side1 => repeat (first | (with_reducible first | exact HB.out | apply below_alloc | apply pw_below_drewN | apply below_drew1 | refine below_set ?_ GE101.out | refine below_set ?_ GE113.out | refine below_set ?_ GE117.out | refine below_set ?_ GE125.out) | exact HB.out)); (case side2 => exact Kd.R_tight rfl HO_9.out); rintro e w139 ⟨rfl, hy0, hb, hkp⟩; refine ⟨_, rfl, ?_⟩; have n0_ := Aside0.mk (Kd.R_mono (ok' := fun k_ => some k_ ≠ (.slice Ao138 t121.length co138 : Value).ownBlock ∧ some k_ ≠ (.slice Ao20 t106.length co20 : Value).ownBlock ∧ some k_ ≠ (.slice Ao26 t133.length co26 : Value).ownBlock ∧ some k_ ≠ (.slice Ao32 t118.length co32 : Value).ownBlock) (Kd.R_keptB (HO_5.out) hkp (fun k_ hk_ hs_ => (hk_.1) hs_)) (fun k_ hk_ => ⟨hk_.1.1, hk_.1.2.1, hk_.1.2.2.1, hk_.1.2.2.2⟩)); have n1_ := Aside0.mk (Kd.R_reok rfl hy0 (fun k_ e_ => HO_9.out.1 k_ e_)); have n2_ := Aside0.mk (Kd.R_mono (ok' := fun k_ => some k_ ≠ (v110 : Value).ownBlock ∧ some k_ ≠ (.slice Ao138 t121.length co138 : Value).ownBlock ∧ some k_ ≠ (.slice Ao26 t133.length co26 : Value).ownBlock ∧ some k_ ≠ (.slice Ao32 t118.length co32 : Value).ownBlock) (Kd.R_keptB (HO_114000.out) hkp (fun k_ hk_ hs_ => (hk_.2.1) hs_)) (fun k_ hk_ => ⟨hk_.1.1, hk_.1.2.1, hk_.1.2.2.1, hk_.1.2.2.2⟩)); have n3_ := Aside0.mk (Kd.R_mono (ok' := fun k_ => some k_ ≠ (v110 : Value).ownBlock ∧ some k_ ≠ (.slice Ao138 t121.length co138 : Value).ownBlock ∧ some k_ ≠ (.slice Ao20 t106.length co20 : Value).ownBlock ∧ some k_ ≠ (.slice Ao32 t118.length co32 : Value).ownBlock) (Kd.R_keptB (HO_118000.out) hkp (fun k_ hk_ hs_ => (hk_.2.1) hs_)) (fun k_ hk_ => ⟨hk_.1.1, hk_.1.2.1, hk_.1.2.2.1, hk_.1.2.2.2⟩)); have n4_ := Aside0.mk (Kd.R_mono (ok' := fun k_ => some k_ ≠ (v110 : Value).ownBlock ∧ some k_ ≠ (.slice Ao138 t121.length co138 : Value).ownBlock ∧ some k_ ≠ (.slice Ao20 t106.length co20 : Value).ownBlock ∧ some k_ ≠ (.slice Ao26 t133.length co26 : Value).ownBlock) (Kd.R_keptB (HO_126000.out) hkp (fun k_ hk_ hs_ => (hk_.2.1) hs_)) (fun k_ hk_ => ⟨hk_.1.1, hk_.1.2.1, hk_.1.2.2.1, hk_.1.2.2.2⟩)); have n5_ := Aside0.mk (blk_kept (by (with_reducible repeat first | apply qc32_7 | apply qc32_8 | apply qc32_9); exact BK101.out) hkp (fun hs_ => (fun e_ => (Kd.R_ne HO_9.out BK101.out (by decide)) e_) hs_)); have n6_ := Aside0.mk (blk_kept (by (with_reducible repeat first | apply qc32_7 | apply qc32_8 | apply qc32_9); exact BK113.out) hkp (fun hs_ => (fun e_ => (Kd.R_ne HO_9.out BK113.out (by decide)) e_) hs_)); have n7_ := Aside0.mk (blk_kept (by (with_reducible repeat first | apply qc32_7 | apply qc32_8 | apply qc32_9); exact BK117.out) hkp (fun hs_ => (fun e_ => (Kd.R_ne HO_9.out BK117.out (by decide)) e_) hs_)); have n8_ := Aside0.mk (blk_kept (by (with_reducible repeat first | apply qc32_7 | apply qc32_8 | apply qc32_9); exact BK125.out) hkp (fun hs_ => (fun e_ => (Kd.R_ne HO_9.out BK125.out (by decide)) e_) hs_)); have n9_ := Aside0.mk (hb); clear HO_5; clear HO_9; clear HO_114000; clear HO_118000; clear HO_126000; clear BK101; clear BK113; clear BK117; clear BK125; clear HB; have HO_5 := n0_; have HO_9 := n1_; have HO_114000 := n2_; have HO_118000 := n3_; have HO_126000 := n4_; have BK101 := n5_; have BK113 := n6_; have BK117 := n7_; have BK125 := n8_; have HB := n9_; clear n0_ n1_ n2_ n3_ n4_ n5_ n6_ n7_ n8_ n9_; (try clear hb); (try clear hkp); (try clear hy0); have hcz140_0 : w139.cell? ⟨gb125, 0, none⟩ = some (.slice Ao32 t118.length co32) := (blk_cell BK125.out 0).trans rfl; have hfz140_0 := blk_frozen BK125.out 0) | ((with_reducible refine gate_callee (f := 65) rfl ?_); refine goesL_ (some 87) rfl rfl Try.func65 (by kernel_rfl) rfl #[.agg #[.slice Ao32 t137.length co32], .int .i64 1] rfl (by (try simp only [List.map_toArray, List.map_cons, List.map_nil]); first | done | (rw [show t137.length = t118.length from (Kd.R_reads' HO_126000.out).1.symm] <;> rfl) | rfl | (simp only [List.length_drop, List.length_take]; rfl)) ?_; (with_reducible refine (laws_heldTasks.calls kj73 _ _ t137 1 t140 _ ?side1 ?side2 A120.out).mono ?_); (case side1 => repeat (first | exact (Kd.R_reads' HO_126000.out).2.2 | (with_reducible refine Kd.C_alloc ?_ _) | (with_reducible refine Kd.C_drewN ?_ _) | (with_reducible refine Kd.C_drew ?_))); (case side2 => rw [show t137.length = t118.length from (Kd.R_reads' HO_126000.out).1.symm]; exact (Kd.R_reads' HO_126000.out).2.1); rintro e w141 ⟨rfl, hb⟩; refine ⟨_, rfl, ?_⟩; have n0_ := Aside0.mk (Kd.R_below (by (with_reducible repeat first | apply qc32_4 | apply qc32_5 | apply qc32_6); exact HO_5.out) hb); have n1_ := Aside0.mk (Kd.R_below (by (with_reducible repeat first | apply qc32_4 | apply qc32_5 | apply qc32_6); exact HO_9.out) hb); have n2_ := Aside0.mk (Kd.R_below (by (with_reducible repeat first | apply qc32_4 | apply qc32_5 | apply qc32_6); exact HO_114000.out) hb); have n3_ := Aside0.mk (Kd.R_below (by (with_reducible repeat first | apply qc32_4 | apply qc32_5 | apply qc32_6); exact HO_118000.out) hb); have n4_ := Aside0.mk (Kd.R_below (by (with_reducible repeat first | apply qc32_4 | apply qc32_5 | apply qc32_6); exact HO_126000.out) hb); have n5_ := Aside0.mk (blk_below (g := gb101) (o := .cells #[.slice A0_0 l0_0.length c0_0] 56 (0, 0)) (by (with_reducible repeat first | apply qc32_7 | apply qc32_8 | apply qc32_9); exact BK101.out) hb); have n6_ := Aside0.mk (blk_below (g := gb113) (o := .cells #[.slice Ao20 t106.length co20] 34 (0, 0)) (by (with_reducible repeat first | apply qc32_7 | apply qc32_8 | apply qc32_9); exact BK113.out) hb); have n7_ := Aside0.mk (blk_below (g := gb117) (o := .cells #[.slice Ao26 t133.length co26] 34 (0, 0)) (by (with_reducible repeat first | apply qc32_7 | apply qc32_8 | apply qc32_9); exact BK117.out) hb); have n8_ := Aside0.mk (blk_below (g := gb125) (o := .cells #[.slice Ao32 t118.length co32] 34 (0, 0)) (by (with_reducible repeat first | apply qc32_7 | apply qc32_8 | apply qc32_9); exact BK125.out) hb); have n9_ := Aside0.mk (below_step (by repeat (first | (with_reducible first | exact HB.out | apply below_alloc | apply pw_below_drewN | apply below_drew1 | refine below_set ?_ GE101.out | refine below_set ?_ GE113.out | refine below_set ?_ GE117.out | refine below_set ?_ GE125.out) | exact HB.out)) hb); clear HO_5; clear HO_9; clear HO_114000; clear HO_118000; clear HO_126000; clear BK101; clear BK113; clear BK117; clear BK125; clear HB; have HO_5 := n0_; have HO_9 := n1_; have HO_114000 := n2_; have HO_118000 := n3_; have HO_126000 := n4_; have BK101 := n5_; have BK113 := n6_; have BK117 := n7_; have BK125 := n8_; have HB := n9_; clear n0_ n1_ n2_ n3_ n4_ n5_ n6_ n7_ n8_ n9_; (try clear hb); (try clear hb2); (try clear hk); (try clear hi)) | ((with_reducible refine gate_callee (f := 66) rfl ?_); refine goesL_ (some 92) rfl rfl Try.func66 (by kernel_rfl) rfl #[.slice Ao138 t139.length co138, .int .i64 t140] rfl (by (try simp only [List.map_toArray, List.map_cons, List.map_nil]); first | done | (rw [show t139.length = t121.length from (Kd.R_reads' HO_9.out).1.symm] <;> rfl) | rfl | (simp only [List.length_drop, List.length_take]; rfl)) ?_; (with_reducible refine (laws_heldInt64S.calls kj73 _ _ t139 t140 t141 _ ?side1 ?side2 A131.out).mono ?_); (case side1 => repeat (first | exact (Kd.R_reads' HO_9.out).2.2 | (with_reducible refine Kd.C_alloc ?_ _) | (with_reducible refine Kd.C_drewN ?_ _) | (with_reducible refine Kd.C_drew ?_))); (case side2 => rw [show t139.length = t121.length from (Kd.R_reads' HO_9.out).1.symm]; exact (Kd.R_reads' HO_9.out).2.1); rintro e w' ⟨rfl, ⟨nd, rfl⟩⟩; refine ⟨_, rfl, ?_⟩))
           go_ret
           exact ⟨by first | rfl | (simp [errW_none, errW_some] <;> rfl) | (simp [*, errW_none, errW_some] <;> rfl), by repeat (first | (with_reducible first | exact HB.out | apply below_alloc | apply pw_below_drewN | apply below_drew1 | refine below_set ?_ GE101.out | refine below_set ?_ GE113.out | refine below_set ?_ GE117.out | refine below_set ?_ GE125.out) | exact HB.out)⟩
          ·
           rw [if_neg c132] at H
           have c132b0 : decide (t141 < 0) = false := decide_eq_false c132
           clear c132
           by_cases c142 : t141 = t138
           ·
            rw [if_pos c142] at H
            have c142b0 : (t141 == t138) = true := beq_iff_eq.mpr c142
            have c142b1 : (t141 != t138) = false := bne_eq_false_iff_eq.mpr c142
            clear c142
            replace H := Option.bind_eq_some_iff.mp H
            obtain ⟨t142, A1430, H⟩ := H
            replace H : ((impl_SortTasks.f kj73 t142).bind fun bt145 => ((laws_eqTasks.f kj73 bt145.1 t106).bind fun t153 => (if t153 = true then ((laws_eqInt64S.f kj73 bt145.2.1 t109).bind fun t154 => (if t154 = true then (laws_FnExactSortTasks.j2 kj73 t139 t138 (bt145.2.2 != t112) t137) else (laws_FnExactSortTasks.j2 kj73 t139 t138 true t137))) else (laws_FnExactSortTasks.j2 kj73 t139 t138 true t137)))) = some r := H
            have A143 := Aside0.mk A1430
            clear A1430
            replace H := Option.bind_eq_some_iff.mp H
            obtain ⟨⟨t145, t148, t151⟩, A1440, H⟩ := H
            replace H : ((laws_eqTasks.f kj73 t145 t106).bind fun t153 => (if t153 = true then ((laws_eqInt64S.f kj73 t148 t109).bind fun t154 => (if t154 = true then (laws_FnExactSortTasks.j2 kj73 t139 t138 (t151 != t112) t137) else (laws_FnExactSortTasks.j2 kj73 t139 t138 true t137))) else (laws_FnExactSortTasks.j2 kj73 t139 t138 true t137))) = some r := H
            have A144 := Aside0.mk A1440
            clear A1440
            have HC145 := Aside0.mk H
            clear H
            have hnb146 := NB125_101.out
            have hnc146 := NB101_125.out
            have hnb147 := NB125_113.out
            have hnc147 := NB113_125.out
            have hnb148 := NB125_117.out
            have hnc148 := NB117_125.out
            have hcz149_0 : wc.cell? ⟨gb125, 0, none⟩ = some (.slice Ao32 t118.length co32) := (blk_cell BK125.out 0).trans rfl
            have hfz149_0 := blk_frozen BK125.out 0
            go_upto_region 29 with (first | ((with_reducible refine gate_callee (f := 63) rfl ?_); refine goesL_ (some 81) rfl rfl Try.func63 (by kernel_rfl) rfl #[.agg #[.slice Ao32 t118.length co32], .int .i64 1] rfl (by (try simp only [List.map_toArray, List.map_cons, List.map_nil]); first | done | rfl | (simp only [List.length_drop, List.length_take]; rfl)) ?_; (with_reducible refine (laws_markTasks.calls kj73 (fun k_ => some k_ = (.slice Ao32 t118.length co32 : Value).ownBlock) (.slice Ao32 t118.length co32) t118 1 t136 t137 w _ ?side1 ?side2 A118.out).mono ?_); (case side1 => repeat (first | (with_reducible first | exact HB.out | apply below_alloc | apply pw_below_drewN | apply below_drew1 | refine below_set ?_ GE101.out | refine below_set ?_ GE113.out | refine below_set ?_ GE117.out | refine below_set ?_ GE125.out) | exact HB.out)); (case side2 => exact Kd.R_tight rfl HO_126000.out); rintro e w150 ⟨rfl, hy0, hb, hkp⟩; refine ⟨_, rfl, ?_⟩; have n0_ := Aside0.mk (Kd.R_mono (ok' := fun k_ => some k_ ≠ (v122 : Value).ownBlock ∧ some k_ ≠ (.slice Ao20 t106.length co20 : Value).ownBlock ∧ some k_ ≠ (.slice Ao26 t133.length co26 : Value).ownBlock ∧ some k_ ≠ (.slice Ao32 t118.length co32 : Value).ownBlock) (Kd.R_keptB (HO_5.out) hkp (fun k_ hk_ hs_ => (hk_.2.2.2) hs_)) (fun k_ hk_ => ⟨hk_.1.1, hk_.1.2.1, hk_.1.2.2.1, hk_.1.2.2.2⟩)); have n1_ := Aside0.mk (Kd.R_mono (ok' := fun k_ => some k_ ≠ (v110 : Value).ownBlock ∧ some k_ ≠ (.slice Ao20 t106.length co20 : Value).ownBlock ∧ some k_ ≠ (.slice Ao26 t133.length co26 : Value).ownBlock ∧ some k_ ≠ (.slice Ao32 t118.length co32 : Value).ownBlock) (Kd.R_keptB (HO_9.out) hkp (fun k_ hk_ hs_ => (hk_.2.2.2) hs_)) (fun k_ hk_ => ⟨hk_.1.1, hk_.1.2.1, hk_.1.2.2.1, hk_.1.2.2.2⟩)); have n2_ := Aside0.mk (Kd.R_mono (ok' := fun k_ => some k_ ≠ (v110 : Value).ownBlock ∧ some k_ ≠ (v122 : Value).ownBlock ∧ some k_ ≠ (.slice Ao26 t133.length co26 : Value).ownBlock ∧ some k_ ≠ (.slice Ao32 t118.length co32 : Value).ownBlock) (Kd.R_keptB (HO_114000.out) hkp (fun k_ hk_ hs_ => (hk_.2.2.2) hs_)) (fun k_ hk_ => ⟨hk_.1.1, hk_.1.2.1, hk_.1.2.2.1, hk_.1.2.2.2⟩)); have n3_ := Aside0.mk (Kd.R_mono (ok' := fun k_ => some k_ ≠ (v110 : Value).ownBlock ∧ some k_ ≠ (v122 : Value).ownBlock ∧ some k_ ≠ (.slice Ao20 t106.length co20 : Value).ownBlock ∧ some k_ ≠ (.slice Ao32 t118.length co32 : Value).ownBlock) (Kd.R_keptB (HO_118000.out) hkp (fun k_ hk_ hs_ => (hk_.2.2.2) hs_)) (fun k_ hk_ => ⟨hk_.1.1, hk_.1.2.1, hk_.1.2.2.1, hk_.1.2.2.2⟩)); have n4_ := Aside0.mk (Kd.R_reok rfl hy0 (fun k_ e_ => HO_126000.out.1 k_ e_)); have n5_ := Aside0.mk (blk_kept (by (with_reducible repeat first | apply qc32_7 | apply qc32_8 | apply qc32_9); exact BK101.out) hkp (fun hs_ => (fun e_ => (Kd.R_ne HO_126000.out BK101.out (by decide)) e_) hs_)); have n6_ := Aside0.mk (blk_kept (by (with_reducible repeat first | apply qc32_7 | apply qc32_8 | apply qc32_9); exact BK113.out) hkp (fun hs_ => (fun e_ => (Kd.R_ne HO_126000.out BK113.out (by decide)) e_) hs_)); have n7_ := Aside0.mk (blk_kept (by (with_reducible repeat first | apply qc32_7 | apply qc32_8 | apply qc32_9); exact BK117.out) hkp (fun hs_ => (fun e_ => (Kd.R_ne HO_126000.out BK117.out (by decide)) e_) hs_)); have n8_ := Aside0.mk (blk_kept (by (with_reducible repeat first | apply qc32_7 | apply qc32_8 | apply qc32_9); exact BK125.out) hkp (fun hs_ => (fun e_ => (Kd.R_ne HO_126000.out BK125.out (by decide)) e_) hs_)); have n9_ := Aside0.mk (hb); clear HO_5; clear HO_9; clear HO_114000; clear HO_118000; clear HO_126000; clear BK101; clear BK113; clear BK117; clear BK125; clear HB; have HO_5 := n0_; have HO_9 := n1_; have HO_114000 := n2_; have HO_118000 := n3_; have HO_126000 := n4_; have BK101 := n5_; have BK113 := n6_; have BK117 := n7_; have BK125 := n8_; have HB := n9_; clear n0_ n1_ n2_ n3_ n4_ n5_ n6_ n7_ n8_ n9_; (try clear hb); (try clear hkp); (try clear hy0); obtain ⟨Ao151, co151, eo151⟩ := Kd.R_slice HO_9.out; subst eo151) | ((with_reducible refine gate_callee (f := 64) rfl ?_); refine goesL_ (some 84) rfl rfl Try.func64 (by kernel_rfl) rfl #[.slice Ao151 t121.length co151, .int .i64 t136] rfl (by (try simp only [List.map_toArray, List.map_cons, List.map_nil]); first | done | rfl | (simp only [List.length_drop, List.length_take]; rfl)) ?_; (with_reducible refine (laws_markInt64S.calls kj73 (fun k_ => some k_ = (.slice Ao151 t121.length co151 : Value).ownBlock) (.slice Ao151 t121.length co151) t121 t136 t138 t139 w _ ?side1 ?side2 A119.out).mono ?_); (case side1 => repeat (first | (with_reducible first | exact HB.out | apply below_alloc | apply pw_below_drewN | apply below_drew1 | refine below_set ?_ GE101.out | refine below_set ?_ GE113.out | refine below_set ?_ GE117.out | refine below_set ?_ GE125.out) | exact HB.out)); (case side2 => exact Kd.R_tight rfl HO_9.out); rintro e w152 ⟨rfl, hy0, hb, hkp⟩; refine ⟨_, rfl, ?_⟩; have n0_ := Aside0.mk (Kd.R_mono (ok' := fun k_ => some k_ ≠ (.slice Ao151 t121.length co151 : Value).ownBlock ∧ some k_ ≠ (.slice Ao20 t106.length co20 : Value).ownBlock ∧ some k_ ≠ (.slice Ao26 t133.length co26 : Value).ownBlock ∧ some k_ ≠ (.slice Ao32 t118.length co32 : Value).ownBlock) (Kd.R_keptB (HO_5.out) hkp (fun k_ hk_ hs_ => (hk_.1) hs_)) (fun k_ hk_ => ⟨hk_.1.1, hk_.1.2.1, hk_.1.2.2.1, hk_.1.2.2.2⟩)); have n1_ := Aside0.mk (Kd.R_reok rfl hy0 (fun k_ e_ => HO_9.out.1 k_ e_)); have n2_ := Aside0.mk (Kd.R_mono (ok' := fun k_ => some k_ ≠ (v110 : Value).ownBlock ∧ some k_ ≠ (.slice Ao151 t121.length co151 : Value).ownBlock ∧ some k_ ≠ (.slice Ao26 t133.length co26 : Value).ownBlock ∧ some k_ ≠ (.slice Ao32 t118.length co32 : Value).ownBlock) (Kd.R_keptB (HO_114000.out) hkp (fun k_ hk_ hs_ => (hk_.2.1) hs_)) (fun k_ hk_ => ⟨hk_.1.1, hk_.1.2.1, hk_.1.2.2.1, hk_.1.2.2.2⟩)); have n3_ := Aside0.mk (Kd.R_mono (ok' := fun k_ => some k_ ≠ (v110 : Value).ownBlock ∧ some k_ ≠ (.slice Ao151 t121.length co151 : Value).ownBlock ∧ some k_ ≠ (.slice Ao20 t106.length co20 : Value).ownBlock ∧ some k_ ≠ (.slice Ao32 t118.length co32 : Value).ownBlock) (Kd.R_keptB (HO_118000.out) hkp (fun k_ hk_ hs_ => (hk_.2.1) hs_)) (fun k_ hk_ => ⟨hk_.1.1, hk_.1.2.1, hk_.1.2.2.1, hk_.1.2.2.2⟩)); have n4_ := Aside0.mk (Kd.R_mono (ok' := fun k_ => some k_ ≠ (v110 : Value).ownBlock ∧ some k_ ≠ (.slice Ao151 t121.length co151 : Value).ownBlock ∧ some k_ ≠ (.slice Ao20 t106.length co20 : Value).ownBlock ∧ some k_ ≠ (.slice Ao26 t133.length co26 : Value).ownBlock) (Kd.R_keptB (HO_126000.out) hkp (fun k_ hk_ hs_ => (hk_.2.1) hs_)) (fun k_ hk_ => ⟨hk_.1.1, hk_.1.2.1, hk_.1.2.2.1, hk_.1.2.2.2⟩)); have n5_ := Aside0.mk (blk_kept (by (with_reducible repeat first | apply qc32_7 | apply qc32_8 | apply qc32_9); exact BK101.out) hkp (fun hs_ => (fun e_ => (Kd.R_ne HO_9.out BK101.out (by decide)) e_) hs_)); have n6_ := Aside0.mk (blk_kept (by (with_reducible repeat first | apply qc32_7 | apply qc32_8 | apply qc32_9); exact BK113.out) hkp (fun hs_ => (fun e_ => (Kd.R_ne HO_9.out BK113.out (by decide)) e_) hs_)); have n7_ := Aside0.mk (blk_kept (by (with_reducible repeat first | apply qc32_7 | apply qc32_8 | apply qc32_9); exact BK117.out) hkp (fun hs_ => (fun e_ => (Kd.R_ne HO_9.out BK117.out (by decide)) e_) hs_)); have n8_ := Aside0.mk (blk_kept (by (with_reducible repeat first | apply qc32_7 | apply qc32_8 | apply qc32_9); exact BK125.out) hkp (fun hs_ => (fun e_ => (Kd.R_ne HO_9.out BK125.out (by decide)) e_) hs_)); have n9_ := Aside0.mk (hb); clear HO_5; clear HO_9; clear HO_114000; clear HO_118000; clear HO_126000; clear BK101; clear BK113; clear BK117; clear BK125; clear HB; have HO_5 := n0_; have HO_9 := n1_; have HO_114000 := n2_; have HO_118000 := n3_; have HO_126000 := n4_; have BK101 := n5_; have BK113 := n6_; have BK117 := n7_; have BK125 := n8_; have HB := n9_; clear n0_ n1_ n2_ n3_ n4_ n5_ n6_ n7_ n8_ n9_; (try clear hb); (try clear hkp); (try clear hy0); have hcz153_0 : w152.cell? ⟨gb125, 0, none⟩ = some (.slice Ao32 t118.length co32) := (blk_cell BK125.out 0).trans rfl; have hfz153_0 := blk_frozen BK125.out 0) | ((with_reducible refine gate_callee (f := 65) rfl ?_); refine goesL_ (some 87) rfl rfl Try.func65 (by kernel_rfl) rfl #[.agg #[.slice Ao32 t137.length co32], .int .i64 1] rfl (by (try simp only [List.map_toArray, List.map_cons, List.map_nil]); first | done | (rw [show t137.length = t118.length from (Kd.R_reads' HO_126000.out).1.symm] <;> rfl) | rfl | (simp only [List.length_drop, List.length_take]; rfl)) ?_; (with_reducible refine (laws_heldTasks.calls kj73 _ _ t137 1 t140 _ ?side1 ?side2 A120.out).mono ?_); (case side1 => repeat (first | exact (Kd.R_reads' HO_126000.out).2.2 | (with_reducible refine Kd.C_alloc ?_ _) | (with_reducible refine Kd.C_drewN ?_ _) | (with_reducible refine Kd.C_drew ?_))); (case side2 => rw [show t137.length = t118.length from (Kd.R_reads' HO_126000.out).1.symm]; exact (Kd.R_reads' HO_126000.out).2.1); rintro e w154 ⟨rfl, hb⟩; refine ⟨_, rfl, ?_⟩; have n0_ := Aside0.mk (Kd.R_below (by (with_reducible repeat first | apply qc32_4 | apply qc32_5 | apply qc32_6); exact HO_5.out) hb); have n1_ := Aside0.mk (Kd.R_below (by (with_reducible repeat first | apply qc32_4 | apply qc32_5 | apply qc32_6); exact HO_9.out) hb); have n2_ := Aside0.mk (Kd.R_below (by (with_reducible repeat first | apply qc32_4 | apply qc32_5 | apply qc32_6); exact HO_114000.out) hb); have n3_ := Aside0.mk (Kd.R_below (by (with_reducible repeat first | apply qc32_4 | apply qc32_5 | apply qc32_6); exact HO_118000.out) hb); have n4_ := Aside0.mk (Kd.R_below (by (with_reducible repeat first | apply qc32_4 | apply qc32_5 | apply qc32_6); exact HO_126000.out) hb); have n5_ := Aside0.mk (blk_below (g := gb101) (o := .cells #[.slice A0_0 l0_0.length c0_0] 56 (0, 0)) (by (with_reducible repeat first | apply qc32_7 | apply qc32_8 | apply qc32_9); exact BK101.out) hb); have n6_ := Aside0.mk (blk_below (g := gb113) (o := .cells #[.slice Ao20 t106.length co20] 34 (0, 0)) (by (with_reducible repeat first | apply qc32_7 | apply qc32_8 | apply qc32_9); exact BK113.out) hb); have n7_ := Aside0.mk (blk_below (g := gb117) (o := .cells #[.slice Ao26 t133.length co26] 34 (0, 0)) (by (with_reducible repeat first | apply qc32_7 | apply qc32_8 | apply qc32_9); exact BK117.out) hb); have n8_ := Aside0.mk (blk_below (g := gb125) (o := .cells #[.slice Ao32 t118.length co32] 34 (0, 0)) (by (with_reducible repeat first | apply qc32_7 | apply qc32_8 | apply qc32_9); exact BK125.out) hb); have n9_ := Aside0.mk (below_step (by repeat (first | (with_reducible first | exact HB.out | apply below_alloc | apply pw_below_drewN | apply below_drew1 | refine below_set ?_ GE101.out | refine below_set ?_ GE113.out | refine below_set ?_ GE117.out | refine below_set ?_ GE125.out) | exact HB.out)) hb); clear HO_5; clear HO_9; clear HO_114000; clear HO_118000; clear HO_126000; clear BK101; clear BK113; clear BK117; clear BK125; clear HB; have HO_5 := n0_; have HO_9 := n1_; have HO_114000 := n2_; have HO_118000 := n3_; have HO_126000 := n4_; have BK101 := n5_; have BK113 := n6_; have BK117 := n7_; have BK125 := n8_; have HB := n9_; clear n0_ n1_ n2_ n3_ n4_ n5_ n6_ n7_ n8_ n9_; (try clear hb); (try clear hb2); (try clear hk); (try clear hi)) | ((with_reducible refine gate_callee (f := 66) rfl ?_); refine goesL_ (some 92) rfl rfl Try.func66 (by kernel_rfl) rfl #[.slice Ao151 t139.length co151, .int .i64 t140] rfl (by (try simp only [List.map_toArray, List.map_cons, List.map_nil]); first | done | (rw [show t139.length = t121.length from (Kd.R_reads' HO_9.out).1.symm] <;> rfl) | rfl | (simp only [List.length_drop, List.length_take]; rfl)) ?_; (with_reducible refine (laws_heldInt64S.calls kj73 _ _ t139 t140 t141 _ ?side1 ?side2 A131.out).mono ?_); (case side1 => repeat (first | exact (Kd.R_reads' HO_9.out).2.2 | (with_reducible refine Kd.C_alloc ?_ _) | (with_reducible refine Kd.C_drewN ?_ _) | (with_reducible refine Kd.C_drew ?_))); (case side2 => rw [show t139.length = t121.length from (Kd.R_reads' HO_9.out).1.symm]; exact (Kd.R_reads' HO_9.out).2.1); rintro e w' ⟨rfl, ⟨nd, rfl⟩⟩; refine ⟨_, rfl, ?_⟩; (try (rw [drewN_self w154]; generalize hq_ : World.drewN w154 _ = w154; have n0_ : Aside0 (Kd.R (Kd.int .i64) 2 w154 w.heap.size (fun k_ => some k_ ≠ (v110 : Value).ownBlock ∧ some k_ ≠ (.slice Ao151 t121.length co151 : Value).ownBlock ∧ some k_ ≠ (.slice Ao26 t133.length co26 : Value).ownBlock ∧ some k_ ≠ (.slice Ao32 t118.length co32 : Value).ownBlock) (.slice Ao20 t106.length co20) t106) := ⟨by rw [← hq_]; exact (by (with_reducible repeat first | apply qc32_4 | apply qc32_5 | apply qc32_6); exact Kd.R_mono HO_114000.out (fun _ hk => hk))⟩; have n1_ : Aside0 (Kd.R (Kd.int .i64) 2 w154 w.heap.size (fun k_ => some k_ ≠ (v110 : Value).ownBlock ∧ some k_ ≠ (.slice Ao151 t121.length co151 : Value).ownBlock ∧ some k_ ≠ (.slice Ao20 t106.length co20 : Value).ownBlock ∧ some k_ ≠ (.slice Ao32 t118.length co32 : Value).ownBlock) (.slice Ao26 t133.length co26) t133) := ⟨by rw [← hq_]; exact (by (with_reducible repeat first | apply qc32_4 | apply qc32_5 | apply qc32_6); exact Kd.R_mono HO_118000.out (fun _ hk => hk))⟩; have n2_ : Aside0 (Kd.R (Kd.int .i64) 2 w154 w.heap.size (fun k_ => some k_ ≠ (v110 : Value).ownBlock ∧ some k_ ≠ (.slice Ao151 t121.length co151 : Value).ownBlock ∧ some k_ ≠ (.slice Ao20 t106.length co20 : Value).ownBlock ∧ some k_ ≠ (.slice Ao26 t133.length co26 : Value).ownBlock) (.slice Ao32 t118.length co32) t137) := ⟨by rw [← hq_]; exact (by (with_reducible repeat first | apply qc32_4 | apply qc32_5 | apply qc32_6); exact Kd.R_mono HO_126000.out (fun _ hk => hk))⟩; have n3_ : Aside0 (Kd.R (Kd.int .i64) 2 w154 w.heap.size (fun k_ => some k_ ≠ (.slice Ao151 t121.length co151 : Value).ownBlock ∧ some k_ ≠ (.slice Ao20 t106.length co20 : Value).ownBlock ∧ some k_ ≠ (.slice Ao26 t133.length co26 : Value).ownBlock ∧ some k_ ≠ (.slice Ao32 t118.length co32 : Value).ownBlock) v110 t109) := ⟨by rw [← hq_]; exact (by (with_reducible repeat first | apply qc32_4 | apply qc32_5 | apply qc32_6); exact Kd.R_mono HO_5.out (fun _ hk => hk))⟩; have n4_ : Aside0 (Kd.R (Kd.int .i64) 2 w154 w.heap.size (fun k_ => some k_ ≠ (v110 : Value).ownBlock ∧ some k_ ≠ (.slice Ao20 t106.length co20 : Value).ownBlock ∧ some k_ ≠ (.slice Ao26 t133.length co26 : Value).ownBlock ∧ some k_ ≠ (.slice Ao32 t118.length co32 : Value).ownBlock) (.slice Ao151 t121.length co151) t139) := ⟨by rw [← hq_]; exact (by (with_reducible repeat first | apply qc32_4 | apply qc32_5 | apply qc32_6); exact Kd.R_mono HO_9.out (fun _ hk => hk))⟩; have n5_ : Aside0 (w154.heap[gb101]? = some (.cells #[.slice A0_0 l0_0.length c0_0] 56 (0, 0))) := ⟨by rw [← hq_]; exact (by (with_reducible repeat first | apply qc32_7 | apply qc32_8 | apply qc32_9); exact BK101.out)⟩; have n6_ : Aside0 (w154.heap[gb113]? = some (.cells #[.slice Ao20 t106.length co20] 34 (0, 0))) := ⟨by rw [← hq_]; exact (by (with_reducible repeat first | apply qc32_7 | apply qc32_8 | apply qc32_9); exact BK113.out)⟩; have n7_ : Aside0 (w154.heap[gb117]? = some (.cells #[.slice Ao26 t133.length co26] 34 (0, 0))) := ⟨by rw [← hq_]; exact (by (with_reducible repeat first | apply qc32_7 | apply qc32_8 | apply qc32_9); exact BK117.out)⟩; have n8_ : Aside0 (w154.heap[gb125]? = some (.cells #[.slice Ao32 t118.length co32] 34 (0, 0))) := ⟨by rw [← hq_]; exact (by (with_reducible repeat first | apply qc32_7 | apply qc32_8 | apply qc32_9); exact BK125.out)⟩; have n9_ : Aside0 (Below w.heap.size w w154) := ⟨by rw [← hq_]; exact (by repeat (first | (with_reducible first | exact HB.out | apply below_alloc | apply pw_below_drewN | apply below_drew1 | refine below_set ?_ GE101.out | refine below_set ?_ GE113.out | refine below_set ?_ GE117.out | refine below_set ?_ GE125.out) | exact HB.out))⟩; clear HO_114000 HO_118000 HO_126000 HO_5 HO_9 BK101 BK113 BK117 BK125 HB hq_; have HO_114000 := n0_; have HO_118000 := n1_; have HO_126000 := n2_; have HO_5 := n3_; have HO_9 := n4_; have BK101 := n5_; have BK113 := n6_; have BK117 := n7_; have BK125 := n8_; have HB := n9_; clear n0_ n1_ n2_ n3_ n4_ n5_ n6_ n7_ n8_ n9_)); have hnb155 := NB101_113.out; have hnc155 := NB113_101.out; have hnb156 := NB101_117.out; have hnc156 := NB117_101.out; have hcz157_0 : w154.cell? ⟨gb101, 0, none⟩ = some (.slice A0_0 l0_0.length c0_0) := (blk_cell BK101.out 0).trans rfl; have hfz157_0 := blk_frozen BK101.out 0) | ((with_reducible refine gate_callee (f := 59) rfl ?_); refine goesL_ (some 100) rfl rfl Try.func59 (by kernel_rfl) rfl #[.agg #[.slice A0_0 l0_0.length c0_0]] rfl (by (try simp only [List.map_toArray, List.map_cons, List.map_nil]); first | done | rfl | (simp only [List.length_drop, List.length_take]; rfl)) ?_; (with_reducible refine (laws_toTasks.calls kj73 _ _ l0_0 t142 _ ?side1 ?side2 A143.out).mono ?_); (case side1 => repeat (first | exact (Kd.C_below HR0_0.out HB.out) | (with_reducible refine Kd.C_alloc ?_ _) | (with_reducible refine Kd.C_drewN ?_ _) | (with_reducible refine Kd.C_drew ?_))); (case side2 => exact HC0_0.out); rintro e w158 ⟨v143, rfl, ho0, hb⟩; refine ⟨_, rfl, ?_⟩; have n0_ := Aside0.mk (Kd.R_elder' (by (with_reducible repeat first | apply qc32_4 | apply qc32_5 | apply qc32_6); exact HO_5.out) (Kd.R_base ho0) hb); have n1_ := Aside0.mk (Kd.R_elder' (by (with_reducible repeat first | apply qc32_4 | apply qc32_5 | apply qc32_6); exact HO_9.out) (Kd.R_base ho0) hb); have n2_ := Aside0.mk (Kd.R_elder' (by (with_reducible repeat first | apply qc32_4 | apply qc32_5 | apply qc32_6); exact HO_114000.out) (Kd.R_base ho0) hb); have n3_ := Aside0.mk (Kd.R_elder' (by (with_reducible repeat first | apply qc32_4 | apply qc32_5 | apply qc32_6); exact HO_118000.out) (Kd.R_base ho0) hb); have n4_ := Aside0.mk (Kd.R_elder' (by (with_reducible repeat first | apply qc32_4 | apply qc32_5 | apply qc32_6); exact HO_126000.out) (Kd.R_base ho0) hb); have n5_ := Aside0.mk (Kd.R_lower (Kd.R_new' (Kd.R_new' (Kd.R_new' (Kd.R_new' (Kd.R_new' ho0 (Kd.R_lt (by (with_reducible repeat first | apply qc32_4 | apply qc32_5 | apply qc32_6); exact HO_5.out))) (Kd.R_lt (by (with_reducible repeat first | apply qc32_4 | apply qc32_5 | apply qc32_6); exact HO_9.out))) (Kd.R_lt (by (with_reducible repeat first | apply qc32_4 | apply qc32_5 | apply qc32_6); exact HO_114000.out))) (Kd.R_lt (by (with_reducible repeat first | apply qc32_4 | apply qc32_5 | apply qc32_6); exact HO_118000.out))) (Kd.R_lt (by (with_reducible repeat first | apply qc32_4 | apply qc32_5 | apply qc32_6); exact HO_126000.out))) (below_size (by repeat (first | (with_reducible first | exact HB.out | apply below_alloc | apply pw_below_drewN | apply below_drew1 | refine below_set ?_ GE101.out | refine below_set ?_ GE113.out | refine below_set ?_ GE117.out | refine below_set ?_ GE125.out) | exact HB.out)))); have n6_ := Aside0.mk (blk_below (g := gb101) (o := .cells #[.slice A0_0 l0_0.length c0_0] 56 (0, 0)) (by (with_reducible repeat first | apply qc32_7 | apply qc32_8 | apply qc32_9); exact BK101.out) hb); have n7_ := Aside0.mk (blk_below (g := gb113) (o := .cells #[.slice Ao20 t106.length co20] 34 (0, 0)) (by (with_reducible repeat first | apply qc32_7 | apply qc32_8 | apply qc32_9); exact BK113.out) hb); have n8_ := Aside0.mk (blk_below (g := gb117) (o := .cells #[.slice Ao26 t133.length co26] 34 (0, 0)) (by (with_reducible repeat first | apply qc32_7 | apply qc32_8 | apply qc32_9); exact BK117.out) hb); have n9_ := Aside0.mk (blk_below (g := gb125) (o := .cells #[.slice Ao32 t118.length co32] 34 (0, 0)) (by (with_reducible repeat first | apply qc32_7 | apply qc32_8 | apply qc32_9); exact BK125.out) hb); have n10_ := Aside0.mk (below_step (by repeat (first | (with_reducible first | exact HB.out | apply below_alloc | apply pw_below_drewN | apply below_drew1 | refine below_set ?_ GE101.out | refine below_set ?_ GE113.out | refine below_set ?_ GE117.out | refine below_set ?_ GE125.out) | exact HB.out)) hb); clear HO_5; clear HO_9; clear HO_114000; clear HO_118000; clear HO_126000; clear BK101; clear BK113; clear BK117; clear BK125; clear HB; have HO_5 := n0_; have HO_9 := n1_; have HO_114000 := n2_; have HO_118000 := n3_; have HO_126000 := n4_; have HO144 := n5_; have BK101 := n6_; have BK113 := n7_; have BK117 := n8_; have BK125 := n9_; have HB := n10_; clear n0_ n1_ n2_ n3_ n4_ n5_ n6_ n7_ n8_ n9_ n10_; (try clear hb); (try clear hb2); (try clear hk); (try clear hi); (try clear ho0); obtain ⟨Ao159, co159, eo159⟩ := Kd.R_slice HO144.out; subst eo159) | ((with_reducible refine gate_callee (f := 60) rfl ?_); refine goesL_ (some 101) rfl rfl Try.func60 (by kernel_rfl) rfl #[.agg #[.slice Ao159 t142.length co159]] rfl (by (try simp only [List.map_toArray, List.map_cons, List.map_nil]); first | done | rfl | (simp only [List.length_drop, List.length_take]; rfl)) ?_; (with_reducible refine (impl_SortTasks.calls kj73 _ _ t142 t145 t148 t151 _ ?side1 ?side2 A144.out).mono ?_); (case side1 => repeat (first | exact (Kd.R_reads' HO144.out).2.2 | (with_reducible refine Kd.C_alloc ?_ _) | (with_reducible refine Kd.C_drewN ?_ _) | (with_reducible refine Kd.C_drew ?_))); (case side2 => exact (Kd.R_reads' HO144.out).2.1); rintro e w160 ⟨v146, v149, rfl, ho0, ho1, hb⟩; refine ⟨_, rfl, ?_⟩; have n0_ := Aside0.mk (Kd.R_mono (Kd.R_told (Kd.R_told (Kd.R_old (by (with_reducible repeat first | apply qc32_4 | apply qc32_5 | apply qc32_6); exact HO_5.out) hb) (Kd.R_base ho0)) (Kd.R_base ho1)) (fun _ h_ => h_.1)); have n1_ := Aside0.mk (Kd.R_mono (Kd.R_told (Kd.R_told (Kd.R_old (by (with_reducible repeat first | apply qc32_4 | apply qc32_5 | apply qc32_6); exact HO_9.out) hb) (Kd.R_base ho0)) (Kd.R_base ho1)) (fun _ h_ => h_.1)); have n2_ := Aside0.mk (Kd.R_mono (Kd.R_told (Kd.R_told (Kd.R_old (by (with_reducible repeat first | apply qc32_4 | apply qc32_5 | apply qc32_6); exact HO_114000.out) hb) (Kd.R_base ho0)) (Kd.R_base ho1)) (fun _ h_ => h_.1)); have n3_ := Aside0.mk (Kd.R_mono (Kd.R_told (Kd.R_told (Kd.R_old (by (with_reducible repeat first | apply qc32_4 | apply qc32_5 | apply qc32_6); exact HO_118000.out) hb) (Kd.R_base ho0)) (Kd.R_base ho1)) (fun _ h_ => h_.1)); have n4_ := Aside0.mk (Kd.R_mono (Kd.R_told (Kd.R_told (Kd.R_old (by (with_reducible repeat first | apply qc32_4 | apply qc32_5 | apply qc32_6); exact HO_126000.out) hb) (Kd.R_base ho0)) (Kd.R_base ho1)) (fun _ h_ => h_.1)); have n5_ := Aside0.mk (Kd.R_mono (Kd.R_told (Kd.R_told (Kd.R_old (by (with_reducible repeat first | apply qc32_4 | apply qc32_5 | apply qc32_6); exact HO144.out) hb) (Kd.R_base ho0)) (Kd.R_base ho1)) (fun _ h_ => h_.1)); have n6_ := Aside0.mk (Kd.R_lower (Kd.R_new' (Kd.R_new' (Kd.R_new' (Kd.R_new' (Kd.R_new' (Kd.R_new' ho0 (Kd.R_lt (by (with_reducible repeat first | apply qc32_4 | apply qc32_5 | apply qc32_6); exact HO_5.out))) (Kd.R_lt (by (with_reducible repeat first | apply qc32_4 | apply qc32_5 | apply qc32_6); exact HO_9.out))) (Kd.R_lt (by (with_reducible repeat first | apply qc32_4 | apply qc32_5 | apply qc32_6); exact HO_114000.out))) (Kd.R_lt (by (with_reducible repeat first | apply qc32_4 | apply qc32_5 | apply qc32_6); exact HO_118000.out))) (Kd.R_lt (by (with_reducible repeat first | apply qc32_4 | apply qc32_5 | apply qc32_6); exact HO_126000.out))) (Kd.R_lt (by (with_reducible repeat first | apply qc32_4 | apply qc32_5 | apply qc32_6); exact HO144.out))) (below_size (by repeat (first | (with_reducible first | exact HB.out | apply below_alloc | apply pw_below_drewN | apply below_drew1 | refine below_set ?_ GE101.out | refine below_set ?_ GE113.out | refine below_set ?_ GE117.out | refine below_set ?_ GE125.out) | exact HB.out)))); have n7_ := Aside0.mk (Kd.R_lower (Kd.R_new' (Kd.R_new' (Kd.R_new' (Kd.R_new' (Kd.R_new' (Kd.R_new' ho1 (Kd.R_lt (by (with_reducible repeat first | apply qc32_4 | apply qc32_5 | apply qc32_6); exact HO_5.out))) (Kd.R_lt (by (with_reducible repeat first | apply qc32_4 | apply qc32_5 | apply qc32_6); exact HO_9.out))) (Kd.R_lt (by (with_reducible repeat first | apply qc32_4 | apply qc32_5 | apply qc32_6); exact HO_114000.out))) (Kd.R_lt (by (with_reducible repeat first | apply qc32_4 | apply qc32_5 | apply qc32_6); exact HO_118000.out))) (Kd.R_lt (by (with_reducible repeat first | apply qc32_4 | apply qc32_5 | apply qc32_6); exact HO_126000.out))) (Kd.R_lt (by (with_reducible repeat first | apply qc32_4 | apply qc32_5 | apply qc32_6); exact HO144.out))) (below_size (by repeat (first | (with_reducible first | exact HB.out | apply below_alloc | apply pw_below_drewN | apply below_drew1 | refine below_set ?_ GE101.out | refine below_set ?_ GE113.out | refine below_set ?_ GE117.out | refine below_set ?_ GE125.out) | exact HB.out)))); have n8_ := Aside0.mk (blk_below (g := gb101) (o := .cells #[.slice A0_0 l0_0.length c0_0] 56 (0, 0)) (by (with_reducible repeat first | apply qc32_7 | apply qc32_8 | apply qc32_9); exact BK101.out) hb); have n9_ := Aside0.mk (blk_below (g := gb113) (o := .cells #[.slice Ao20 t106.length co20] 34 (0, 0)) (by (with_reducible repeat first | apply qc32_7 | apply qc32_8 | apply qc32_9); exact BK113.out) hb); have n10_ := Aside0.mk (blk_below (g := gb117) (o := .cells #[.slice Ao26 t133.length co26] 34 (0, 0)) (by (with_reducible repeat first | apply qc32_7 | apply qc32_8 | apply qc32_9); exact BK117.out) hb); have n11_ := Aside0.mk (blk_below (g := gb125) (o := .cells #[.slice Ao32 t118.length co32] 34 (0, 0)) (by (with_reducible repeat first | apply qc32_7 | apply qc32_8 | apply qc32_9); exact BK125.out) hb); have n12_ := Aside0.mk (below_step (by repeat (first | (with_reducible first | exact HB.out | apply below_alloc | apply pw_below_drewN | apply below_drew1 | refine below_set ?_ GE101.out | refine below_set ?_ GE113.out | refine below_set ?_ GE117.out | refine below_set ?_ GE125.out) | exact HB.out)) hb); clear HO_5; clear HO_9; clear HO_114000; clear HO_118000; clear HO_126000; clear HO144; clear BK101; clear BK113; clear BK117; clear BK125; clear HB; have HO_5 := n0_; have HO_9 := n1_; have HO_114000 := n2_; have HO_118000 := n3_; have HO_126000 := n4_; have HO144 := n5_; have HO147 := n6_; have HO150 := n7_; have BK101 := n8_; have BK113 := n9_; have BK117 := n10_; have BK125 := n11_; have HB := n12_; clear n0_ n1_ n2_ n3_ n4_ n5_ n6_ n7_ n8_ n9_ n10_ n11_ n12_; (try clear hb); (try clear hb2); (try clear hk); (try clear hi); (try clear ho0); (try clear ho1)) | ((with_reducible refine gate_dst (N := 14) rfl ?_); refine box_event ?hg (N := 14) ?hd (cs := #[.slice none 0 0]) (t := 34) ?hr ?_; (case hd => rfl); (case hg => rfl); (case hr => first | (go_simp; done) | (go_simp; rfl)); intro gb152 hg w161 hbox hb; have n0_ := Aside0.mk (Kd.R_below (by (with_reducible repeat first | apply qc32_4 | apply qc32_5 | apply qc32_6); exact HO_5.out) hb); have n1_ := Aside0.mk (Kd.R_below (by (with_reducible repeat first | apply qc32_4 | apply qc32_5 | apply qc32_6); exact HO_9.out) hb); have n2_ := Aside0.mk (Kd.R_below (by (with_reducible repeat first | apply qc32_4 | apply qc32_5 | apply qc32_6); exact HO_114000.out) hb); have n3_ := Aside0.mk (Kd.R_below (by (with_reducible repeat first | apply qc32_4 | apply qc32_5 | apply qc32_6); exact HO_118000.out) hb); have n4_ := Aside0.mk (Kd.R_below (by (with_reducible repeat first | apply qc32_4 | apply qc32_5 | apply qc32_6); exact HO_126000.out) hb); have n5_ := Aside0.mk (Kd.R_below (by (with_reducible repeat first | apply qc32_4 | apply qc32_5 | apply qc32_6); exact HO144.out) hb); have n6_ := Aside0.mk (Kd.R_below (by (with_reducible repeat first | apply qc32_4 | apply qc32_5 | apply qc32_6); exact HO147.out) hb); have n7_ := Aside0.mk (Kd.R_below (by (with_reducible repeat first | apply qc32_4 | apply qc32_5 | apply qc32_6); exact HO150.out) hb); have n8_ := Aside0.mk (blk_below (g := gb101) (o := .cells #[.slice A0_0 l0_0.length c0_0] 56 (0, 0)) (by (with_reducible repeat first | apply qc32_7 | apply qc32_8 | apply qc32_9); exact BK101.out) hb); have n9_ := Aside0.mk (blk_below (g := gb113) (o := .cells #[.slice Ao20 t106.length co20] 34 (0, 0)) (by (with_reducible repeat first | apply qc32_7 | apply qc32_8 | apply qc32_9); exact BK113.out) hb); have n10_ := Aside0.mk (blk_below (g := gb117) (o := .cells #[.slice Ao26 t133.length co26] 34 (0, 0)) (by (with_reducible repeat first | apply qc32_7 | apply qc32_8 | apply qc32_9); exact BK117.out) hb); have n11_ := Aside0.mk (blk_below (g := gb125) (o := .cells #[.slice Ao32 t118.length co32] 34 (0, 0)) (by (with_reducible repeat first | apply qc32_7 | apply qc32_8 | apply qc32_9); exact BK125.out) hb); have n12_ := Aside0.mk (below_step (by repeat (first | (with_reducible first | exact HB.out | apply below_alloc | apply pw_below_drewN | apply below_drew1 | refine below_set ?_ GE101.out | refine below_set ?_ GE113.out | refine below_set ?_ GE117.out | refine below_set ?_ GE125.out) | exact HB.out)) hb); have n13_ := Aside0.mk (hbox); have n14_ := Aside0.mk ((by rw [hg]; exact (below_size (by repeat (first | (with_reducible first | exact HB.out | apply below_alloc | apply pw_below_drewN | apply below_drew1 | refine below_set ?_ GE101.out | refine below_set ?_ GE113.out | refine below_set ?_ GE117.out | refine below_set ?_ GE125.out) | exact HB.out))) : w.heap.size ≤ gb152)); have n15_ := Aside0.mk ((by rw [hg]; exact (below_size (by repeat (first | (with_reducible first | exact HB.out | apply below_alloc | apply pw_below_drewN | apply below_drew1 | refine below_set ?_ GE101.out | refine below_set ?_ GE113.out | refine below_set ?_ GE117.out | refine below_set ?_ GE125.out) | exact HB.out))) : w.heap.size ≤ gb152)); have n16_ := Aside0.mk ((by rw [hg]; exact Nat.ne_of_lt (blk_lt (g := gb101) (o := .cells #[.slice A0_0 l0_0.length c0_0] 56 (0, 0)) (by (with_reducible repeat first | apply qc32_7 | apply qc32_8 | apply qc32_9); exact BK101.out)) : gb101 ≠ gb152)); have n17_ := Aside0.mk ((by rw [hg]; exact Nat.ne_of_gt (blk_lt (g := gb101) (o := .cells #[.slice A0_0 l0_0.length c0_0] 56 (0, 0)) (by (with_reducible repeat first | apply qc32_7 | apply qc32_8 | apply qc32_9); exact BK101.out)) : gb152 ≠ gb101)); have n18_ := Aside0.mk ((by rw [hg]; exact Nat.ne_of_lt (blk_lt (g := gb113) (o := .cells #[.slice Ao20 t106.length co20] 34 (0, 0)) (by (with_reducible repeat first | apply qc32_7 | apply qc32_8 | apply qc32_9); exact BK113.out)) : gb113 ≠ gb152)); have n19_ := Aside0.mk ((by rw [hg]; exact Nat.ne_of_gt (blk_lt (g := gb113) (o := .cells #[.slice Ao20 t106.length co20] 34 (0, 0)) (by (with_reducible repeat first | apply qc32_7 | apply qc32_8 | apply qc32_9); exact BK113.out)) : gb152 ≠ gb113)); have n20_ := Aside0.mk ((by rw [hg]; exact Nat.ne_of_lt (blk_lt (g := gb117) (o := .cells #[.slice Ao26 t133.length co26] 34 (0, 0)) (by (with_reducible repeat first | apply qc32_7 | apply qc32_8 | apply qc32_9); exact BK117.out)) : gb117 ≠ gb152)); have n21_ := Aside0.mk ((by rw [hg]; exact Nat.ne_of_gt (blk_lt (g := gb117) (o := .cells #[.slice Ao26 t133.length co26] 34 (0, 0)) (by (with_reducible repeat first | apply qc32_7 | apply qc32_8 | apply qc32_9); exact BK117.out)) : gb152 ≠ gb117)); have n22_ := Aside0.mk ((by rw [hg]; exact Nat.ne_of_lt (blk_lt (g := gb125) (o := .cells #[.slice Ao32 t118.length co32] 34 (0, 0)) (by (with_reducible repeat first | apply qc32_7 | apply qc32_8 | apply qc32_9); exact BK125.out)) : gb125 ≠ gb152)); have n23_ := Aside0.mk ((by rw [hg]; exact Nat.ne_of_gt (blk_lt (g := gb125) (o := .cells #[.slice Ao32 t118.length co32] 34 (0, 0)) (by (with_reducible repeat first | apply qc32_7 | apply qc32_8 | apply qc32_9); exact BK125.out)) : gb152 ≠ gb125)); clear HO_5; clear HO_9; clear HO_114000; clear HO_118000; clear HO_126000; clear HO144; clear HO147; clear HO150; clear BK101; clear BK113; clear BK117; clear BK125; clear HB; have HO_5 := n0_; have HO_9 := n1_; have HO_114000 := n2_; have HO_118000 := n3_; have HO_126000 := n4_; have HO144 := n5_; have HO147 := n6_; have HO150 := n7_; have BK101 := n8_; have BK113 := n9_; have BK117 := n10_; have BK125 := n11_; have HB := n12_; have BK152 := n13_; have GW152 := n14_; have GE152 := n15_; have NB101_152 := n16_; have NB152_101 := n17_; have NB113_152 := n18_; have NB152_113 := n19_; have NB117_152 := n20_; have NB152_117 := n21_; have NB125_152 := n22_; have NB152_125 := n23_; clear n0_ n1_ n2_ n3_ n4_ n5_ n6_ n7_ n8_ n9_ n10_ n11_ n12_ n13_ n14_ n15_ n16_ n17_ n18_ n19_ n20_ n21_ n22_ n23_; clear hb hbox hg; obtain ⟨Ao162, co162, eo162⟩ := Kd.R_slice HO147.out; subst eo162; have hnb163 := NB152_101.out; have hnc163 := NB101_152.out; have hnb164 := NB152_113.out; have hnc164 := NB113_152.out; have hnb165 := NB152_117.out; have hnc165 := NB117_152.out; have hnb166 := NB152_125.out; have hnc166 := NB125_152.out; have hcz167_0 : w161.cell? ⟨gb152, 0, none⟩ = some (.slice none 0 0) := (blk_cell BK152.out 0).trans rfl; have hfz167_0 := blk_frozen BK152.out 0))
            (try simp only [Act.put, qc32_1, qc32_2, qc32_3])
            go_cut [119] (fun v119 wc => ∃ (kq : Nat) (x119_144 : Bool), v119 = .bool x119_144 ∧ Aside0 (laws_FnExactSortTasks.j2 kq t139 t138 x119_144 t137 = some r) ∧ Aside0 (kq ≤ kj73) ∧ Aside0 (Kd.R (Kd.int .i64) 2 wc w.heap.size (fun k_ => some k_ ≠ ((.slice Ao20 t106.length co20) : Value).ownBlock ∧ some k_ ≠ ((.slice Ao26 t133.length co26) : Value).ownBlock ∧ some k_ ≠ ((.slice Ao32 t118.length co32) : Value).ownBlock ∧ some k_ ≠ ((.slice Ao162 t145.length co162) : Value).ownBlock) (.slice Ao151 t121.length co151) t139) ∧ Aside0 (Kd.R (Kd.int .i64) 2 wc w.heap.size (fun k_ => some k_ ≠ ((.slice Ao151 t121.length co151) : Value).ownBlock ∧ some k_ ≠ ((.slice Ao26 t133.length co26) : Value).ownBlock ∧ some k_ ≠ ((.slice Ao32 t118.length co32) : Value).ownBlock ∧ some k_ ≠ ((.slice Ao162 t145.length co162) : Value).ownBlock) (.slice Ao20 t106.length co20) t106) ∧ Aside0 (Kd.R (Kd.int .i64) 2 wc w.heap.size (fun k_ => some k_ ≠ ((.slice Ao151 t121.length co151) : Value).ownBlock ∧ some k_ ≠ ((.slice Ao20 t106.length co20) : Value).ownBlock ∧ some k_ ≠ ((.slice Ao32 t118.length co32) : Value).ownBlock ∧ some k_ ≠ ((.slice Ao162 t145.length co162) : Value).ownBlock) (.slice Ao26 t133.length co26) t133) ∧ Aside0 (Kd.R (Kd.int .i64) 2 wc w.heap.size (fun k_ => some k_ ≠ ((.slice Ao151 t121.length co151) : Value).ownBlock ∧ some k_ ≠ ((.slice Ao20 t106.length co20) : Value).ownBlock ∧ some k_ ≠ ((.slice Ao26 t133.length co26) : Value).ownBlock ∧ some k_ ≠ ((.slice Ao162 t145.length co162) : Value).ownBlock) (.slice Ao32 t118.length co32) t137) ∧ Aside0 (Kd.R (Kd.int .i64) 2 wc w.heap.size (fun k_ => some k_ ≠ ((.slice Ao151 t121.length co151) : Value).ownBlock ∧ some k_ ≠ ((.slice Ao20 t106.length co20) : Value).ownBlock ∧ some k_ ≠ ((.slice Ao26 t133.length co26) : Value).ownBlock ∧ some k_ ≠ ((.slice Ao32 t118.length co32) : Value).ownBlock) (.slice Ao162 t145.length co162) t145) ∧ Aside0 (wc.heap[gb101]? = some (.cells #[(.slice A0_0 l0_0.length c0_0)] 56 (0, 0))) ∧ Aside0 (wc.heap[gb113]? = some (.cells #[(.slice Ao20 t106.length co20)] 34 (0, 0))) ∧ Aside0 (wc.heap[gb117]? = some (.cells #[(.slice Ao26 t133.length co26)] 34 (0, 0))) ∧ Aside0 (wc.heap[gb125]? = some (.cells #[(.slice Ao32 t118.length co32)] 34 (0, 0))) ∧ Aside0 (wc.heap[gb152]? = some (.cells #[(.slice Ao162 t145.length co162)] 34 (0, 0))) ∧ Aside0 (Below w.heap.size w wc))
            case first =>
             have H := HC145.out
             clear HC145
             replace H := Option.bind_eq_some_iff.mp H
             obtain ⟨t153, A1680, H⟩ := H
             replace H : (if t153 = true then ((laws_eqInt64S.f kj73 t148 t109).bind fun t154 => (if t154 = true then (laws_FnExactSortTasks.j2 kj73 t139 t138 (t151 != t112) t137) else (laws_FnExactSortTasks.j2 kj73 t139 t138 true t137))) else (laws_FnExactSortTasks.j2 kj73 t139 t138 true t137)) = some r := H
             have A168 := Aside0.mk A1680
             clear A1680
             by_cases c169 : t153 = true
             ·
              subst c169
              have H1 : ((laws_eqInt64S.f kj73 t148 t109).bind fun t154 => (if t154 = true then (laws_FnExactSortTasks.j2 kj73 t139 t138 (t151 != t112) t137) else (laws_FnExactSortTasks.j2 kj73 t139 t138 true t137))) = some r := by rw [if_pos rfl] at H; exact H
              clear H
              have H := H1
              clear H1
              replace H := Option.bind_eq_some_iff.mp H
              obtain ⟨t154, A1700, H⟩ := H
              replace H : (if t154 = true then (laws_FnExactSortTasks.j2 kj73 t139 t138 (t151 != t112) t137) else (laws_FnExactSortTasks.j2 kj73 t139 t138 true t137)) = some r := H
              have A170 := Aside0.mk A1700
              clear A1700
              by_cases c171 : t154 = true
              ·
               subst c171
               have H1 : (laws_FnExactSortTasks.j2 kj73 t139 t138 (t151 != t112) t137) = some r := by rw [if_pos rfl] at H; exact H
               clear H
               have H := H1
               clear H1
               have H' := Aside0.mk H
               clear H
               have hnb172 := NB152_101.out
               have hnc172 := NB101_152.out
               have hnb173 := NB152_113.out
               have hnc173 := NB113_152.out
               have hnb174 := NB152_117.out
               have hnc174 := NB117_152.out
               have hnb175 := NB152_125.out
               have hnc175 := NB125_152.out
               have hcz176_0 : w161.cell? ⟨gb152, 0, none⟩ = some (.slice none 0 0) := (blk_cell BK152.out 0).trans rfl
               have hfz176_0 := blk_frozen BK152.out 0
               have hnb177 := NB113_101.out
               have hnc177 := NB101_113.out
               have hnb178 := NB113_117.out
               have hnc178 := NB117_113.out
               have hnb179 := NB113_125.out
               have hnc179 := NB125_113.out
               have hcz180_0 : w161.cell? ⟨gb113, 0, none⟩ = some (.slice Ao20 t106.length co20) := (blk_cell BK113.out 0).trans rfl
               have hfz180_0 := blk_frozen BK113.out 0
               go_wp2_with (first | ((with_reducible refine gate_callee (f := 61) rfl ?_); refine goesL_ (some 107) rfl rfl Try.func61 (by kernel_rfl) rfl #[.agg #[.slice Ao162 t145.length co162], .agg #[.slice Ao20 t106.length co20]] rfl (by (try simp only [List.map_toArray, List.map_cons, List.map_nil]); first | done | rfl | (simp only [List.length_drop, List.length_take]; rfl)) ?_; (with_reducible refine (laws_eqTasks.calls kj73 _ _ t145 _ _ t106 true _ ?side1 ?side2 ?side3 ?side4 A168.out).mono ?_); (case side1 => refine (Kd.R_reads' (e := 2) (base := w.heap.size) (ok := fun k_ => ((((((some k_ ≠ (v149 : Value).ownBlock ∧ some k_ ≠ (v110 : Value).ownBlock) ∧ some k_ ≠ (.slice Ao151 t121.length co151 : Value).ownBlock) ∧ some k_ ≠ (.slice Ao20 t106.length co20 : Value).ownBlock) ∧ some k_ ≠ (.slice Ao26 t133.length co26 : Value).ownBlock) ∧ some k_ ≠ (.slice Ao32 t118.length co32 : Value).ownBlock) ∧ some k_ ≠ (.slice Ao159 t142.length co159 : Value).ownBlock)) (n := t145.length) (c := co162) ?_).2.2; exact (by (with_reducible repeat first | apply qc32_4 | apply qc32_5 | apply qc32_6); exact (Kd.R_mono (Kd.R_far (p := ⟨gb152, 0, none⟩) (Kd.R_types HO147.out BK152.out (by decide)) (fun _ hk => hk.2) (.slice Ao162 t145.length co162)) (fun _ h_ => h_.1)))); (case side2 => exact (Kd.R_reads' HO147.out).2.1); (case side3 => refine (Kd.R_reads' (e := 2) (base := w.heap.size) (ok := fun k_ => ((((some k_ ≠ (v110 : Value).ownBlock ∧ (some k_ ≠ (.slice Ao151 t121.length co151 : Value).ownBlock ∧ (some k_ ≠ (.slice Ao26 t133.length co26 : Value).ownBlock ∧ some k_ ≠ (.slice Ao32 t118.length co32 : Value).ownBlock))) ∧ some k_ ≠ (.slice Ao159 t142.length co159 : Value).ownBlock) ∧ some k_ ≠ (.slice Ao162 t145.length co162 : Value).ownBlock) ∧ some k_ ≠ (v149 : Value).ownBlock)) (n := t106.length) (c := co20) ?_).2.2; exact (by (with_reducible repeat first | apply qc32_4 | apply qc32_5 | apply qc32_6); exact (Kd.R_mono (Kd.R_far (p := ⟨gb152, 0, none⟩) (Kd.R_types HO_114000.out BK152.out (by decide)) (fun _ hk => hk.2) (.slice Ao162 t145.length co162)) (fun _ h_ => h_.1)))); (case side4 => exact (Kd.R_reads' HO_114000.out).2.1); rintro e w181 ⟨rfl, hb⟩; refine ⟨_, rfl, ?_⟩; have n0_ := Aside0.mk (Kd.R_below (by (with_reducible repeat first | apply qc32_4 | apply qc32_5 | apply qc32_6); exact (Kd.R_mono (Kd.R_far (p := ⟨gb152, 0, none⟩) (Kd.R_types HO_5.out BK152.out (by decide)) (fun _ hk => hk.2) (.slice Ao162 t145.length co162)) (fun _ h_ => h_.1))) hb); have n1_ := Aside0.mk (Kd.R_below (by (with_reducible repeat first | apply qc32_4 | apply qc32_5 | apply qc32_6); exact (Kd.R_mono (Kd.R_far (p := ⟨gb152, 0, none⟩) (Kd.R_types HO_9.out BK152.out (by decide)) (fun _ hk => hk.2) (.slice Ao162 t145.length co162)) (fun _ h_ => h_.1))) hb); have n2_ := Aside0.mk (Kd.R_below (by (with_reducible repeat first | apply qc32_4 | apply qc32_5 | apply qc32_6); exact (Kd.R_mono (Kd.R_far (p := ⟨gb152, 0, none⟩) (Kd.R_types HO_114000.out BK152.out (by decide)) (fun _ hk => hk.2) (.slice Ao162 t145.length co162)) (fun _ h_ => h_.1))) hb); have n3_ := Aside0.mk (Kd.R_below (by (with_reducible repeat first | apply qc32_4 | apply qc32_5 | apply qc32_6); exact (Kd.R_mono (Kd.R_far (p := ⟨gb152, 0, none⟩) (Kd.R_types HO_118000.out BK152.out (by decide)) (fun _ hk => hk.2) (.slice Ao162 t145.length co162)) (fun _ h_ => h_.1))) hb); have n4_ := Aside0.mk (Kd.R_below (by (with_reducible repeat first | apply qc32_4 | apply qc32_5 | apply qc32_6); exact (Kd.R_mono (Kd.R_far (p := ⟨gb152, 0, none⟩) (Kd.R_types HO_126000.out BK152.out (by decide)) (fun _ hk => hk.2) (.slice Ao162 t145.length co162)) (fun _ h_ => h_.1))) hb); have n5_ := Aside0.mk (Kd.R_below (by (with_reducible repeat first | apply qc32_4 | apply qc32_5 | apply qc32_6); exact (Kd.R_mono (Kd.R_far (p := ⟨gb152, 0, none⟩) (Kd.R_types HO144.out BK152.out (by decide)) (fun _ hk => hk.2) (.slice Ao162 t145.length co162)) (fun _ h_ => h_.1))) hb); have n6_ := Aside0.mk (Kd.R_below (by (with_reducible repeat first | apply qc32_4 | apply qc32_5 | apply qc32_6); exact (Kd.R_mono (Kd.R_far (p := ⟨gb152, 0, none⟩) (Kd.R_types HO147.out BK152.out (by decide)) (fun _ hk => hk.2) (.slice Ao162 t145.length co162)) (fun _ h_ => h_.1))) hb); have n7_ := Aside0.mk (Kd.R_below (by (with_reducible repeat first | apply qc32_4 | apply qc32_5 | apply qc32_6); exact (Kd.R_mono (Kd.R_far (p := ⟨gb152, 0, none⟩) (Kd.R_types HO150.out BK152.out (by decide)) (fun _ hk => hk.2) (.slice Ao162 t145.length co162)) (fun _ h_ => h_.1))) hb); have n8_ := Aside0.mk (blk_below (g := gb101) (o := .cells #[.slice A0_0 l0_0.length c0_0] 56 (0, 0)) (by (with_reducible repeat first | apply qc32_7 | apply qc32_8 | apply qc32_9); refine blk_far ?_ NB101_152.out _; (with_reducible repeat first | apply qc32_7 | apply qc32_8 | apply qc32_9); exact BK101.out) hb); have n9_ := Aside0.mk (blk_below (g := gb113) (o := .cells #[.slice Ao20 t106.length co20] 34 (0, 0)) (by (with_reducible repeat first | apply qc32_7 | apply qc32_8 | apply qc32_9); refine blk_far ?_ NB113_152.out _; (with_reducible repeat first | apply qc32_7 | apply qc32_8 | apply qc32_9); exact BK113.out) hb); have n10_ := Aside0.mk (blk_below (g := gb117) (o := .cells #[.slice Ao26 t133.length co26] 34 (0, 0)) (by (with_reducible repeat first | apply qc32_7 | apply qc32_8 | apply qc32_9); refine blk_far ?_ NB117_152.out _; (with_reducible repeat first | apply qc32_7 | apply qc32_8 | apply qc32_9); exact BK117.out) hb); have n11_ := Aside0.mk (blk_below (g := gb125) (o := .cells #[.slice Ao32 t118.length co32] 34 (0, 0)) (by (with_reducible repeat first | apply qc32_7 | apply qc32_8 | apply qc32_9); refine blk_far ?_ NB125_152.out _; (with_reducible repeat first | apply qc32_7 | apply qc32_8 | apply qc32_9); exact BK125.out) hb); have n12_ := Aside0.mk (blk_below (g := gb152) (o := .cells #[.slice Ao162 t145.length co162] 34 (0, 0)) (by (with_reducible repeat first | apply qc32_7 | apply qc32_8 | apply qc32_9); refine blk_put (cs := #[.slice none 0 0]) ?_ 0 _ rfl; (with_reducible repeat first | apply qc32_7 | apply qc32_8 | apply qc32_9); exact BK152.out) hb); have n13_ := Aside0.mk (below_step (by repeat (first | (with_reducible first | exact HB.out | apply below_alloc | apply pw_below_drewN | apply below_drew1 | refine below_set ?_ GE101.out | refine below_set ?_ GE113.out | refine below_set ?_ GE117.out | refine below_set ?_ GE125.out | refine below_set ?_ GE152.out) | exact HB.out)) hb); clear HO_5; clear HO_9; clear HO_114000; clear HO_118000; clear HO_126000; clear HO144; clear HO147; clear HO150; clear BK101; clear BK113; clear BK117; clear BK125; clear BK152; clear HB; have HO_5 := n0_; have HO_9 := n1_; have HO_114000 := n2_; have HO_118000 := n3_; have HO_126000 := n4_; have HO144 := n5_; have HO147 := n6_; have HO150 := n7_; have BK101 := n8_; have BK113 := n9_; have BK117 := n10_; have BK125 := n11_; have BK152 := n12_; have HB := n13_; clear n0_ n1_ n2_ n3_ n4_ n5_ n6_ n7_ n8_ n9_ n10_ n11_ n12_ n13_; (try clear hb); (try clear hb2); (try clear hk); (try clear hi); obtain ⟨Ao182, co182, eo182⟩ := Kd.R_slice HO150.out; subst eo182; obtain ⟨Ao183, co183, eo183⟩ := Kd.R_slice HO_5.out; subst eo183) | (go_at_call 62; (with_reducible refine (laws_eqInt64S.calls kj73 _ _ t148 _ _ t109 true _ ?side1 ?side2 ?side3 ?side4 A170.out).mono ?_); (case side1 => repeat (first | exact (Kd.R_reads' HO150.out).2.2 | (with_reducible refine Kd.C_alloc ?_ _) | (with_reducible refine Kd.C_drewN ?_ _) | (with_reducible refine Kd.C_drew ?_))); (case side2 => exact (Kd.R_reads' HO150.out).2.1); (case side3 => repeat (first | exact (Kd.R_reads' HO_5.out).2.2 | (with_reducible refine Kd.C_alloc ?_ _) | (with_reducible refine Kd.C_drewN ?_ _) | (with_reducible refine Kd.C_drew ?_))); (case side4 => exact (Kd.R_reads' HO_5.out).2.1); rintro e w' ⟨rfl, ⟨nd, rfl⟩⟩))
               go_meet
               case rel => exact ⟨_, ((t151 != t112)), (by first | rfl | simp), H', ⟨by have := HJ10.out; have := HJ73.out; first | omega | exact Nat.le_refl _⟩, ⟨by (try simp only [hl118000_73]); (with_reducible repeat first | apply qc32_4 | apply qc32_5 | apply qc32_6); exact Kd.R_mono HO_9.out (fun _ hk => ⟨hk.1.1.1.2.1, ⟨hk.1.1.1.2.2.1, ⟨hk.1.1.1.2.2.2, hk.1.2⟩⟩⟩)⟩, ⟨by (try simp only [hl118000_73]); (with_reducible repeat first | apply qc32_4 | apply qc32_5 | apply qc32_6); exact Kd.R_mono HO_114000.out (fun _ hk => ⟨hk.1.1.1.2.1, ⟨hk.1.1.1.2.2.1, ⟨hk.1.1.1.2.2.2, hk.1.2⟩⟩⟩)⟩, ⟨by (try simp only [hl118000_73]); (with_reducible repeat first | apply qc32_4 | apply qc32_5 | apply qc32_6); exact Kd.R_mono HO_118000.out (fun _ hk => ⟨hk.1.1.1.2.1, ⟨hk.1.1.1.2.2.1, ⟨hk.1.1.1.2.2.2, hk.1.2⟩⟩⟩)⟩, ⟨by (try simp only [hl118000_73]); (with_reducible repeat first | apply qc32_4 | apply qc32_5 | apply qc32_6); exact Kd.R_mono HO_126000.out (fun _ hk => ⟨hk.1.1.1.2.1, ⟨hk.1.1.1.2.2.1, ⟨hk.1.1.1.2.2.2, hk.1.2⟩⟩⟩)⟩, ⟨by (try simp only [hl118000_73]); (with_reducible repeat first | apply qc32_4 | apply qc32_5 | apply qc32_6); exact Kd.R_mono HO147.out (fun _ hk => ⟨hk.1.1.1.1.2, ⟨hk.1.1.1.2, ⟨hk.1.1.2, hk.1.2⟩⟩⟩)⟩, ⟨by (try simp only [hl118000_73]); (with_reducible repeat first | apply qc32_7 | apply qc32_8 | apply qc32_9); exact BK101.out⟩, ⟨by (try simp only [hl118000_73]); (with_reducible repeat first | apply qc32_7 | apply qc32_8 | apply qc32_9); exact BK113.out⟩, ⟨by (try simp only [hl118000_73]); (with_reducible repeat first | apply qc32_7 | apply qc32_8 | apply qc32_9); exact BK117.out⟩, ⟨by (try simp only [hl118000_73]); (with_reducible repeat first | apply qc32_7 | apply qc32_8 | apply qc32_9); exact BK125.out⟩, ⟨by (try simp only [hl118000_73]); (with_reducible repeat first | apply qc32_7 | apply qc32_8 | apply qc32_9); exact BK152.out⟩, ⟨by repeat (first | (with_reducible first | exact HB.out | apply below_alloc | apply pw_below_drewN | apply below_drew1 | refine below_set ?_ GE101.out | refine below_set ?_ GE113.out | refine below_set ?_ GE117.out | refine below_set ?_ GE125.out | refine below_set ?_ GE152.out) | exact HB.out)⟩⟩
              ·
               replace c171 := Bool.eq_false_iff.mpr c171
               subst c171
               have H1 : (laws_FnExactSortTasks.j2 kj73 t139 t138 true t137) = some r := by rw [if_neg (show ¬ (false = true) by decide)] at H; exact H
               clear H
               have H := H1
               clear H1
               have H' := Aside0.mk H
               clear H
               have hnb184 := NB152_101.out
               have hnc184 := NB101_152.out
               have hnb185 := NB152_113.out
               have hnc185 := NB113_152.out
               have hnb186 := NB152_117.out
               have hnc186 := NB117_152.out
               have hnb187 := NB152_125.out
               have hnc187 := NB125_152.out
               have hcz188_0 : w161.cell? ⟨gb152, 0, none⟩ = some (.slice none 0 0) := (blk_cell BK152.out 0).trans rfl
               have hfz188_0 := blk_frozen BK152.out 0
               have hnb189 := NB113_101.out
               have hnc189 := NB101_113.out
               have hnb190 := NB113_117.out
               have hnc190 := NB117_113.out
               have hnb191 := NB113_125.out
               have hnc191 := NB125_113.out
               have hcz192_0 : w161.cell? ⟨gb113, 0, none⟩ = some (.slice Ao20 t106.length co20) := (blk_cell BK113.out 0).trans rfl
               have hfz192_0 := blk_frozen BK113.out 0
               go_wp2_with (first | ((with_reducible refine gate_callee (f := 61) rfl ?_); refine goesL_ (some 107) rfl rfl Try.func61 (by kernel_rfl) rfl #[.agg #[.slice Ao162 t145.length co162], .agg #[.slice Ao20 t106.length co20]] rfl (by (try simp only [List.map_toArray, List.map_cons, List.map_nil]); first | done | rfl | (simp only [List.length_drop, List.length_take]; rfl)) ?_; (with_reducible refine (laws_eqTasks.calls kj73 _ _ t145 _ _ t106 true _ ?side1 ?side2 ?side3 ?side4 A168.out).mono ?_); (case side1 => refine (Kd.R_reads' (e := 2) (base := w.heap.size) (ok := fun k_ => ((((((some k_ ≠ (v149 : Value).ownBlock ∧ some k_ ≠ (v110 : Value).ownBlock) ∧ some k_ ≠ (.slice Ao151 t121.length co151 : Value).ownBlock) ∧ some k_ ≠ (.slice Ao20 t106.length co20 : Value).ownBlock) ∧ some k_ ≠ (.slice Ao26 t133.length co26 : Value).ownBlock) ∧ some k_ ≠ (.slice Ao32 t118.length co32 : Value).ownBlock) ∧ some k_ ≠ (.slice Ao159 t142.length co159 : Value).ownBlock)) (n := t145.length) (c := co162) ?_).2.2; exact (by (with_reducible repeat first | apply qc32_4 | apply qc32_5 | apply qc32_6); exact (Kd.R_mono (Kd.R_far (p := ⟨gb152, 0, none⟩) (Kd.R_types HO147.out BK152.out (by decide)) (fun _ hk => hk.2) (.slice Ao162 t145.length co162)) (fun _ h_ => h_.1)))); (case side2 => exact (Kd.R_reads' HO147.out).2.1); (case side3 => refine (Kd.R_reads' (e := 2) (base := w.heap.size) (ok := fun k_ => ((((some k_ ≠ (v110 : Value).ownBlock ∧ (some k_ ≠ (.slice Ao151 t121.length co151 : Value).ownBlock ∧ (some k_ ≠ (.slice Ao26 t133.length co26 : Value).ownBlock ∧ some k_ ≠ (.slice Ao32 t118.length co32 : Value).ownBlock))) ∧ some k_ ≠ (.slice Ao159 t142.length co159 : Value).ownBlock) ∧ some k_ ≠ (.slice Ao162 t145.length co162 : Value).ownBlock) ∧ some k_ ≠ (v149 : Value).ownBlock)) (n := t106.length) (c := co20) ?_).2.2; exact (by (with_reducible repeat first | apply qc32_4 | apply qc32_5 | apply qc32_6); exact (Kd.R_mono (Kd.R_far (p := ⟨gb152, 0, none⟩) (Kd.R_types HO_114000.out BK152.out (by decide)) (fun _ hk => hk.2) (.slice Ao162 t145.length co162)) (fun _ h_ => h_.1)))); (case side4 => exact (Kd.R_reads' HO_114000.out).2.1); rintro e w193 ⟨rfl, hb⟩; refine ⟨_, rfl, ?_⟩; have n0_ := Aside0.mk (Kd.R_below (by (with_reducible repeat first | apply qc32_4 | apply qc32_5 | apply qc32_6); exact (Kd.R_mono (Kd.R_far (p := ⟨gb152, 0, none⟩) (Kd.R_types HO_5.out BK152.out (by decide)) (fun _ hk => hk.2) (.slice Ao162 t145.length co162)) (fun _ h_ => h_.1))) hb); have n1_ := Aside0.mk (Kd.R_below (by (with_reducible repeat first | apply qc32_4 | apply qc32_5 | apply qc32_6); exact (Kd.R_mono (Kd.R_far (p := ⟨gb152, 0, none⟩) (Kd.R_types HO_9.out BK152.out (by decide)) (fun _ hk => hk.2) (.slice Ao162 t145.length co162)) (fun _ h_ => h_.1))) hb); have n2_ := Aside0.mk (Kd.R_below (by (with_reducible repeat first | apply qc32_4 | apply qc32_5 | apply qc32_6); exact (Kd.R_mono (Kd.R_far (p := ⟨gb152, 0, none⟩) (Kd.R_types HO_114000.out BK152.out (by decide)) (fun _ hk => hk.2) (.slice Ao162 t145.length co162)) (fun _ h_ => h_.1))) hb); have n3_ := Aside0.mk (Kd.R_below (by (with_reducible repeat first | apply qc32_4 | apply qc32_5 | apply qc32_6); exact (Kd.R_mono (Kd.R_far (p := ⟨gb152, 0, none⟩) (Kd.R_types HO_118000.out BK152.out (by decide)) (fun _ hk => hk.2) (.slice Ao162 t145.length co162)) (fun _ h_ => h_.1))) hb); have n4_ := Aside0.mk (Kd.R_below (by (with_reducible repeat first | apply qc32_4 | apply qc32_5 | apply qc32_6); exact (Kd.R_mono (Kd.R_far (p := ⟨gb152, 0, none⟩) (Kd.R_types HO_126000.out BK152.out (by decide)) (fun _ hk => hk.2) (.slice Ao162 t145.length co162)) (fun _ h_ => h_.1))) hb); have n5_ := Aside0.mk (Kd.R_below (by (with_reducible repeat first | apply qc32_4 | apply qc32_5 | apply qc32_6); exact (Kd.R_mono (Kd.R_far (p := ⟨gb152, 0, none⟩) (Kd.R_types HO144.out BK152.out (by decide)) (fun _ hk => hk.2) (.slice Ao162 t145.length co162)) (fun _ h_ => h_.1))) hb); have n6_ := Aside0.mk (Kd.R_below (by (with_reducible repeat first | apply qc32_4 | apply qc32_5 | apply qc32_6); exact (Kd.R_mono (Kd.R_far (p := ⟨gb152, 0, none⟩) (Kd.R_types HO147.out BK152.out (by decide)) (fun _ hk => hk.2) (.slice Ao162 t145.length co162)) (fun _ h_ => h_.1))) hb); have n7_ := Aside0.mk (Kd.R_below (by (with_reducible repeat first | apply qc32_4 | apply qc32_5 | apply qc32_6); exact (Kd.R_mono (Kd.R_far (p := ⟨gb152, 0, none⟩) (Kd.R_types HO150.out BK152.out (by decide)) (fun _ hk => hk.2) (.slice Ao162 t145.length co162)) (fun _ h_ => h_.1))) hb); have n8_ := Aside0.mk (blk_below (g := gb101) (o := .cells #[.slice A0_0 l0_0.length c0_0] 56 (0, 0)) (by (with_reducible repeat first | apply qc32_7 | apply qc32_8 | apply qc32_9); refine blk_far ?_ NB101_152.out _; (with_reducible repeat first | apply qc32_7 | apply qc32_8 | apply qc32_9); exact BK101.out) hb); have n9_ := Aside0.mk (blk_below (g := gb113) (o := .cells #[.slice Ao20 t106.length co20] 34 (0, 0)) (by (with_reducible repeat first | apply qc32_7 | apply qc32_8 | apply qc32_9); refine blk_far ?_ NB113_152.out _; (with_reducible repeat first | apply qc32_7 | apply qc32_8 | apply qc32_9); exact BK113.out) hb); have n10_ := Aside0.mk (blk_below (g := gb117) (o := .cells #[.slice Ao26 t133.length co26] 34 (0, 0)) (by (with_reducible repeat first | apply qc32_7 | apply qc32_8 | apply qc32_9); refine blk_far ?_ NB117_152.out _; (with_reducible repeat first | apply qc32_7 | apply qc32_8 | apply qc32_9); exact BK117.out) hb); have n11_ := Aside0.mk (blk_below (g := gb125) (o := .cells #[.slice Ao32 t118.length co32] 34 (0, 0)) (by (with_reducible repeat first | apply qc32_7 | apply qc32_8 | apply qc32_9); refine blk_far ?_ NB125_152.out _; (with_reducible repeat first | apply qc32_7 | apply qc32_8 | apply qc32_9); exact BK125.out) hb); have n12_ := Aside0.mk (blk_below (g := gb152) (o := .cells #[.slice Ao162 t145.length co162] 34 (0, 0)) (by (with_reducible repeat first | apply qc32_7 | apply qc32_8 | apply qc32_9); refine blk_put (cs := #[.slice none 0 0]) ?_ 0 _ rfl; (with_reducible repeat first | apply qc32_7 | apply qc32_8 | apply qc32_9); exact BK152.out) hb); have n13_ := Aside0.mk (below_step (by repeat (first | (with_reducible first | exact HB.out | apply below_alloc | apply pw_below_drewN | apply below_drew1 | refine below_set ?_ GE101.out | refine below_set ?_ GE113.out | refine below_set ?_ GE117.out | refine below_set ?_ GE125.out | refine below_set ?_ GE152.out) | exact HB.out)) hb); clear HO_5; clear HO_9; clear HO_114000; clear HO_118000; clear HO_126000; clear HO144; clear HO147; clear HO150; clear BK101; clear BK113; clear BK117; clear BK125; clear BK152; clear HB; have HO_5 := n0_; have HO_9 := n1_; have HO_114000 := n2_; have HO_118000 := n3_; have HO_126000 := n4_; have HO144 := n5_; have HO147 := n6_; have HO150 := n7_; have BK101 := n8_; have BK113 := n9_; have BK117 := n10_; have BK125 := n11_; have BK152 := n12_; have HB := n13_; clear n0_ n1_ n2_ n3_ n4_ n5_ n6_ n7_ n8_ n9_ n10_ n11_ n12_ n13_; (try clear hb); (try clear hb2); (try clear hk); (try clear hi); obtain ⟨Ao194, co194, eo194⟩ := Kd.R_slice HO150.out; subst eo194; obtain ⟨Ao195, co195, eo195⟩ := Kd.R_slice HO_5.out; subst eo195) | (go_at_call 62; (with_reducible refine (laws_eqInt64S.calls kj73 _ _ t148 _ _ t109 false _ ?side1 ?side2 ?side3 ?side4 A170.out).mono ?_); (case side1 => repeat (first | exact (Kd.R_reads' HO150.out).2.2 | (with_reducible refine Kd.C_alloc ?_ _) | (with_reducible refine Kd.C_drewN ?_ _) | (with_reducible refine Kd.C_drew ?_))); (case side2 => exact (Kd.R_reads' HO150.out).2.1); (case side3 => repeat (first | exact (Kd.R_reads' HO_5.out).2.2 | (with_reducible refine Kd.C_alloc ?_ _) | (with_reducible refine Kd.C_drewN ?_ _) | (with_reducible refine Kd.C_drew ?_))); (case side4 => exact (Kd.R_reads' HO_5.out).2.1); rintro e w' ⟨rfl, ⟨nd, rfl⟩⟩))
               go_meet
               case rel => exact ⟨_, (true), (by first | rfl | simp), H', ⟨by have := HJ10.out; have := HJ73.out; first | omega | exact Nat.le_refl _⟩, ⟨by (try simp only [hl118000_73]); (with_reducible repeat first | apply qc32_4 | apply qc32_5 | apply qc32_6); exact Kd.R_mono HO_9.out (fun _ hk => ⟨hk.1.1.1.2.1, ⟨hk.1.1.1.2.2.1, ⟨hk.1.1.1.2.2.2, hk.1.2⟩⟩⟩)⟩, ⟨by (try simp only [hl118000_73]); (with_reducible repeat first | apply qc32_4 | apply qc32_5 | apply qc32_6); exact Kd.R_mono HO_114000.out (fun _ hk => ⟨hk.1.1.1.2.1, ⟨hk.1.1.1.2.2.1, ⟨hk.1.1.1.2.2.2, hk.1.2⟩⟩⟩)⟩, ⟨by (try simp only [hl118000_73]); (with_reducible repeat first | apply qc32_4 | apply qc32_5 | apply qc32_6); exact Kd.R_mono HO_118000.out (fun _ hk => ⟨hk.1.1.1.2.1, ⟨hk.1.1.1.2.2.1, ⟨hk.1.1.1.2.2.2, hk.1.2⟩⟩⟩)⟩, ⟨by (try simp only [hl118000_73]); (with_reducible repeat first | apply qc32_4 | apply qc32_5 | apply qc32_6); exact Kd.R_mono HO_126000.out (fun _ hk => ⟨hk.1.1.1.2.1, ⟨hk.1.1.1.2.2.1, ⟨hk.1.1.1.2.2.2, hk.1.2⟩⟩⟩)⟩, ⟨by (try simp only [hl118000_73]); (with_reducible repeat first | apply qc32_4 | apply qc32_5 | apply qc32_6); exact Kd.R_mono HO147.out (fun _ hk => ⟨hk.1.1.1.1.2, ⟨hk.1.1.1.2, ⟨hk.1.1.2, hk.1.2⟩⟩⟩)⟩, ⟨by (try simp only [hl118000_73]); (with_reducible repeat first | apply qc32_7 | apply qc32_8 | apply qc32_9); exact BK101.out⟩, ⟨by (try simp only [hl118000_73]); (with_reducible repeat first | apply qc32_7 | apply qc32_8 | apply qc32_9); exact BK113.out⟩, ⟨by (try simp only [hl118000_73]); (with_reducible repeat first | apply qc32_7 | apply qc32_8 | apply qc32_9); exact BK117.out⟩, ⟨by (try simp only [hl118000_73]); (with_reducible repeat first | apply qc32_7 | apply qc32_8 | apply qc32_9); exact BK125.out⟩, ⟨by (try simp only [hl118000_73]); (with_reducible repeat first | apply qc32_7 | apply qc32_8 | apply qc32_9); exact BK152.out⟩, ⟨by repeat (first | (with_reducible first | exact HB.out | apply below_alloc | apply pw_below_drewN | apply below_drew1 | refine below_set ?_ GE101.out | refine below_set ?_ GE113.out | refine below_set ?_ GE117.out | refine below_set ?_ GE125.out | refine below_set ?_ GE152.out) | exact HB.out)⟩⟩
             ·
              replace c169 := Bool.eq_false_iff.mpr c169
              subst c169
              have H1 : (laws_FnExactSortTasks.j2 kj73 t139 t138 true t137) = some r := by rw [if_neg (show ¬ (false = true) by decide)] at H; exact H
              clear H
              have H := H1
              clear H1
              have H' := Aside0.mk H
              clear H
              have hnb196 := NB152_101.out
              have hnc196 := NB101_152.out
              have hnb197 := NB152_113.out
              have hnc197 := NB113_152.out
              have hnb198 := NB152_117.out
              have hnc198 := NB117_152.out
              have hnb199 := NB152_125.out
              have hnc199 := NB125_152.out
              have hcz200_0 : w161.cell? ⟨gb152, 0, none⟩ = some (.slice none 0 0) := (blk_cell BK152.out 0).trans rfl
              have hfz200_0 := blk_frozen BK152.out 0
              have hnb201 := NB113_101.out
              have hnc201 := NB101_113.out
              have hnb202 := NB113_117.out
              have hnc202 := NB117_113.out
              have hnb203 := NB113_125.out
              have hnc203 := NB125_113.out
              have hcz204_0 : w161.cell? ⟨gb113, 0, none⟩ = some (.slice Ao20 t106.length co20) := (blk_cell BK113.out 0).trans rfl
              have hfz204_0 := blk_frozen BK113.out 0
              go_wp2_with (first | ((with_reducible refine gate_callee (f := 61) rfl ?_); refine goesL_ (some 107) rfl rfl Try.func61 (by kernel_rfl) rfl #[.agg #[.slice Ao162 t145.length co162], .agg #[.slice Ao20 t106.length co20]] rfl (by (try simp only [List.map_toArray, List.map_cons, List.map_nil]); first | done | rfl | (simp only [List.length_drop, List.length_take]; rfl)) ?_; (with_reducible refine (laws_eqTasks.calls kj73 _ _ t145 _ _ t106 false _ ?side1 ?side2 ?side3 ?side4 A168.out).mono ?_); (case side1 => refine (Kd.R_reads' (e := 2) (base := w.heap.size) (ok := fun k_ => ((((((some k_ ≠ (v149 : Value).ownBlock ∧ some k_ ≠ (v110 : Value).ownBlock) ∧ some k_ ≠ (.slice Ao151 t121.length co151 : Value).ownBlock) ∧ some k_ ≠ (.slice Ao20 t106.length co20 : Value).ownBlock) ∧ some k_ ≠ (.slice Ao26 t133.length co26 : Value).ownBlock) ∧ some k_ ≠ (.slice Ao32 t118.length co32 : Value).ownBlock) ∧ some k_ ≠ (.slice Ao159 t142.length co159 : Value).ownBlock)) (n := t145.length) (c := co162) ?_).2.2; exact (by (with_reducible repeat first | apply qc32_4 | apply qc32_5 | apply qc32_6); exact (Kd.R_mono (Kd.R_far (p := ⟨gb152, 0, none⟩) (Kd.R_types HO147.out BK152.out (by decide)) (fun _ hk => hk.2) (.slice Ao162 t145.length co162)) (fun _ h_ => h_.1)))); (case side2 => exact (Kd.R_reads' HO147.out).2.1); (case side3 => refine (Kd.R_reads' (e := 2) (base := w.heap.size) (ok := fun k_ => ((((some k_ ≠ (v110 : Value).ownBlock ∧ (some k_ ≠ (.slice Ao151 t121.length co151 : Value).ownBlock ∧ (some k_ ≠ (.slice Ao26 t133.length co26 : Value).ownBlock ∧ some k_ ≠ (.slice Ao32 t118.length co32 : Value).ownBlock))) ∧ some k_ ≠ (.slice Ao159 t142.length co159 : Value).ownBlock) ∧ some k_ ≠ (.slice Ao162 t145.length co162 : Value).ownBlock) ∧ some k_ ≠ (v149 : Value).ownBlock)) (n := t106.length) (c := co20) ?_).2.2; exact (by (with_reducible repeat first | apply qc32_4 | apply qc32_5 | apply qc32_6); exact (Kd.R_mono (Kd.R_far (p := ⟨gb152, 0, none⟩) (Kd.R_types HO_114000.out BK152.out (by decide)) (fun _ hk => hk.2) (.slice Ao162 t145.length co162)) (fun _ h_ => h_.1)))); (case side4 => exact (Kd.R_reads' HO_114000.out).2.1); rintro e w205 ⟨rfl, hb⟩; refine ⟨_, rfl, ?_⟩; have n0_ := Aside0.mk (Kd.R_below (by (with_reducible repeat first | apply qc32_4 | apply qc32_5 | apply qc32_6); exact (Kd.R_mono (Kd.R_far (p := ⟨gb152, 0, none⟩) (Kd.R_types HO_5.out BK152.out (by decide)) (fun _ hk => hk.2) (.slice Ao162 t145.length co162)) (fun _ h_ => h_.1))) hb); have n1_ := Aside0.mk (Kd.R_below (by (with_reducible repeat first | apply qc32_4 | apply qc32_5 | apply qc32_6); exact (Kd.R_mono (Kd.R_far (p := ⟨gb152, 0, none⟩) (Kd.R_types HO_9.out BK152.out (by decide)) (fun _ hk => hk.2) (.slice Ao162 t145.length co162)) (fun _ h_ => h_.1))) hb); have n2_ := Aside0.mk (Kd.R_below (by (with_reducible repeat first | apply qc32_4 | apply qc32_5 | apply qc32_6); exact (Kd.R_mono (Kd.R_far (p := ⟨gb152, 0, none⟩) (Kd.R_types HO_114000.out BK152.out (by decide)) (fun _ hk => hk.2) (.slice Ao162 t145.length co162)) (fun _ h_ => h_.1))) hb); have n3_ := Aside0.mk (Kd.R_below (by (with_reducible repeat first | apply qc32_4 | apply qc32_5 | apply qc32_6); exact (Kd.R_mono (Kd.R_far (p := ⟨gb152, 0, none⟩) (Kd.R_types HO_118000.out BK152.out (by decide)) (fun _ hk => hk.2) (.slice Ao162 t145.length co162)) (fun _ h_ => h_.1))) hb); have n4_ := Aside0.mk (Kd.R_below (by (with_reducible repeat first | apply qc32_4 | apply qc32_5 | apply qc32_6); exact (Kd.R_mono (Kd.R_far (p := ⟨gb152, 0, none⟩) (Kd.R_types HO_126000.out BK152.out (by decide)) (fun _ hk => hk.2) (.slice Ao162 t145.length co162)) (fun _ h_ => h_.1))) hb); have n5_ := Aside0.mk (Kd.R_below (by (with_reducible repeat first | apply qc32_4 | apply qc32_5 | apply qc32_6); exact (Kd.R_mono (Kd.R_far (p := ⟨gb152, 0, none⟩) (Kd.R_types HO144.out BK152.out (by decide)) (fun _ hk => hk.2) (.slice Ao162 t145.length co162)) (fun _ h_ => h_.1))) hb); have n6_ := Aside0.mk (Kd.R_below (by (with_reducible repeat first | apply qc32_4 | apply qc32_5 | apply qc32_6); exact (Kd.R_mono (Kd.R_far (p := ⟨gb152, 0, none⟩) (Kd.R_types HO147.out BK152.out (by decide)) (fun _ hk => hk.2) (.slice Ao162 t145.length co162)) (fun _ h_ => h_.1))) hb); have n7_ := Aside0.mk (Kd.R_below (by (with_reducible repeat first | apply qc32_4 | apply qc32_5 | apply qc32_6); exact (Kd.R_mono (Kd.R_far (p := ⟨gb152, 0, none⟩) (Kd.R_types HO150.out BK152.out (by decide)) (fun _ hk => hk.2) (.slice Ao162 t145.length co162)) (fun _ h_ => h_.1))) hb); have n8_ := Aside0.mk (blk_below (g := gb101) (o := .cells #[.slice A0_0 l0_0.length c0_0] 56 (0, 0)) (by (with_reducible repeat first | apply qc32_7 | apply qc32_8 | apply qc32_9); refine blk_far ?_ NB101_152.out _; (with_reducible repeat first | apply qc32_7 | apply qc32_8 | apply qc32_9); exact BK101.out) hb); have n9_ := Aside0.mk (blk_below (g := gb113) (o := .cells #[.slice Ao20 t106.length co20] 34 (0, 0)) (by (with_reducible repeat first | apply qc32_7 | apply qc32_8 | apply qc32_9); refine blk_far ?_ NB113_152.out _; (with_reducible repeat first | apply qc32_7 | apply qc32_8 | apply qc32_9); exact BK113.out) hb); have n10_ := Aside0.mk (blk_below (g := gb117) (o := .cells #[.slice Ao26 t133.length co26] 34 (0, 0)) (by (with_reducible repeat first | apply qc32_7 | apply qc32_8 | apply qc32_9); refine blk_far ?_ NB117_152.out _; (with_reducible repeat first | apply qc32_7 | apply qc32_8 | apply qc32_9); exact BK117.out) hb); have n11_ := Aside0.mk (blk_below (g := gb125) (o := .cells #[.slice Ao32 t118.length co32] 34 (0, 0)) (by (with_reducible repeat first | apply qc32_7 | apply qc32_8 | apply qc32_9); refine blk_far ?_ NB125_152.out _; (with_reducible repeat first | apply qc32_7 | apply qc32_8 | apply qc32_9); exact BK125.out) hb); have n12_ := Aside0.mk (blk_below (g := gb152) (o := .cells #[.slice Ao162 t145.length co162] 34 (0, 0)) (by (with_reducible repeat first | apply qc32_7 | apply qc32_8 | apply qc32_9); refine blk_put (cs := #[.slice none 0 0]) ?_ 0 _ rfl; (with_reducible repeat first | apply qc32_7 | apply qc32_8 | apply qc32_9); exact BK152.out) hb); have n13_ := Aside0.mk (below_step (by repeat (first | (with_reducible first | exact HB.out | apply below_alloc | apply pw_below_drewN | apply below_drew1 | refine below_set ?_ GE101.out | refine below_set ?_ GE113.out | refine below_set ?_ GE117.out | refine below_set ?_ GE125.out | refine below_set ?_ GE152.out) | exact HB.out)) hb); clear HO_5; clear HO_9; clear HO_114000; clear HO_118000; clear HO_126000; clear HO144; clear HO147; clear HO150; clear BK101; clear BK113; clear BK117; clear BK125; clear BK152; clear HB; have HO_5 := n0_; have HO_9 := n1_; have HO_114000 := n2_; have HO_118000 := n3_; have HO_126000 := n4_; have HO144 := n5_; have HO147 := n6_; have HO150 := n7_; have BK101 := n8_; have BK113 := n9_; have BK117 := n10_; have BK125 := n11_; have BK152 := n12_; have HB := n13_; clear n0_ n1_ n2_ n3_ n4_ n5_ n6_ n7_ n8_ n9_ n10_ n11_ n12_ n13_; (try clear hb); (try clear hb2); (try clear hk); (try clear hi)))
              go_meet
              case rel => exact ⟨_, (true), (by first | rfl | simp), H', ⟨by have := HJ10.out; have := HJ73.out; first | omega | exact Nat.le_refl _⟩, ⟨by (try simp only [hl118000_73]); (with_reducible repeat first | apply qc32_4 | apply qc32_5 | apply qc32_6); exact Kd.R_mono HO_9.out (fun _ hk => ⟨hk.1.1.1.2.1, ⟨hk.1.1.1.2.2.1, ⟨hk.1.1.1.2.2.2, hk.1.2⟩⟩⟩)⟩, ⟨by (try simp only [hl118000_73]); (with_reducible repeat first | apply qc32_4 | apply qc32_5 | apply qc32_6); exact Kd.R_mono HO_114000.out (fun _ hk => ⟨hk.1.1.1.2.1, ⟨hk.1.1.1.2.2.1, ⟨hk.1.1.1.2.2.2, hk.1.2⟩⟩⟩)⟩, ⟨by (try simp only [hl118000_73]); (with_reducible repeat first | apply qc32_4 | apply qc32_5 | apply qc32_6); exact Kd.R_mono HO_118000.out (fun _ hk => ⟨hk.1.1.1.2.1, ⟨hk.1.1.1.2.2.1, ⟨hk.1.1.1.2.2.2, hk.1.2⟩⟩⟩)⟩, ⟨by (try simp only [hl118000_73]); (with_reducible repeat first | apply qc32_4 | apply qc32_5 | apply qc32_6); exact Kd.R_mono HO_126000.out (fun _ hk => ⟨hk.1.1.1.2.1, ⟨hk.1.1.1.2.2.1, ⟨hk.1.1.1.2.2.2, hk.1.2⟩⟩⟩)⟩, ⟨by (try simp only [hl118000_73]); (with_reducible repeat first | apply qc32_4 | apply qc32_5 | apply qc32_6); exact Kd.R_mono HO147.out (fun _ hk => ⟨hk.1.1.1.1.2, ⟨hk.1.1.1.2, ⟨hk.1.1.2, hk.1.2⟩⟩⟩)⟩, ⟨by (try simp only [hl118000_73]); (with_reducible repeat first | apply qc32_7 | apply qc32_8 | apply qc32_9); exact BK101.out⟩, ⟨by (try simp only [hl118000_73]); (with_reducible repeat first | apply qc32_7 | apply qc32_8 | apply qc32_9); exact BK113.out⟩, ⟨by (try simp only [hl118000_73]); (with_reducible repeat first | apply qc32_7 | apply qc32_8 | apply qc32_9); exact BK117.out⟩, ⟨by (try simp only [hl118000_73]); (with_reducible repeat first | apply qc32_7 | apply qc32_8 | apply qc32_9); exact BK125.out⟩, ⟨by (try simp only [hl118000_73]); (with_reducible repeat first | apply qc32_7 | apply qc32_8 | apply qc32_9); exact BK152.out⟩, ⟨by repeat (first | (with_reducible first | exact HB.out | apply below_alloc | apply pw_below_drewN | apply below_drew1 | refine below_set ?_ GE101.out | refine below_set ?_ GE113.out | refine below_set ?_ GE117.out | refine below_set ?_ GE125.out | refine below_set ?_ GE152.out) | exact HB.out)⟩⟩
            case rest =>
             clear HC145
             try clear c1
             try clear c2
             try clear p2
             try clear c3
             try clear c3b0
             try clear c4
             try clear c5
             try clear c6
             try clear c7
             try clear c8
             try clear c9
             try clear c10
             try clear c11
             try clear c12
             try clear c13
             try clear c14
             try clear c15
             try clear c16
             try clear c17
             try clear c18
             try clear c19
             try clear c20
             try clear c21
             try clear c27
             try clear c28
             try clear c33
             try clear c34
             try clear c35
             try clear c38
             try clear c40
             try clear c41
             try clear c42
             try clear c43
             try clear c45
             try clear c46
             try clear c51
             try clear c52
             try clear c53
             try clear c55
             try clear c56
             try clear c57
             try clear c58
             try clear c59
             try clear c60
             try clear c61
             try clear c62
             try clear c63
             try clear c64
             try clear c65
             try clear c66
             try clear c69
             try clear c72
             try clear c79
             try clear c80
             try clear c81
             try clear c84
             try clear c84b0
             try clear c86
             try clear c88
             try clear c89
             try clear c90
             try clear c91
             try clear c93
             try clear c94
             try clear c99
             try clear c100
             try clear c101
             try clear c103
             try clear c104
             try clear c109
             try clear c110
             try clear c111
             try clear c113
             try clear c114
             try clear c117
             try clear c121
             try clear c121b0
             try clear c122
             try clear c123
             try clear c124
             try clear c132
             try clear c132b0
             try clear c133
             try clear c134
             try clear c135
             try clear c142
             try clear c142b0
             try clear c142b1
             try clear c146
             try clear c147
             try clear c148
             try clear c155
             try clear c156
             try clear c163
             try clear c164
             try clear c165
             try clear c166
             try clear c169
             try clear c171
             try clear c172
             try clear c173
             try clear c174
             try clear c175
             try clear c177
             try clear c178
             try clear c179
             try clear c184
             try clear c185
             try clear c186
             try clear c187
             try clear c189
             try clear c190
             try clear c191
             try clear c196
             try clear c197
             try clear c198
             try clear c199
             try clear c201
             try clear c202
             try clear c203
             try clear hcz102_0
             try clear hcz105_0
             try clear hcz112_0
             try clear hcz115_0
             try clear hcz125_0
             try clear hcz129_0
             try clear hcz136_0
             try clear hcz13_0
             try clear hcz140_0
             try clear hcz149_0
             try clear hcz153_0
             try clear hcz157_0
             try clear hcz15_0
             try clear hcz167_0
             try clear hcz176_0
             try clear hcz180_0
             try clear hcz188_0
             try clear hcz192_0
             try clear hcz200_0
             try clear hcz204_0
             try clear hcz22_0
             try clear hcz23_0
             try clear hcz29_0
             try clear hcz36_0
             try clear hcz44_0
             try clear hcz47_0
             try clear hcz54_0
             try clear hcz57_0
             try clear hcz5_0
             try clear hcz64_0
             try clear hcz67_0
             try clear hcz82_0
             try clear hcz92_0
             try clear hcz95_0
             try clear hfz102_0
             try clear hfz105_0
             try clear hfz112_0
             try clear hfz115_0
             try clear hfz125_0
             try clear hfz129_0
             try clear hfz136_0
             try clear hfz13_0
             try clear hfz140_0
             try clear hfz149_0
             try clear hfz153_0
             try clear hfz157_0
             try clear hfz15_0
             try clear hfz167_0
             try clear hfz176_0
             try clear hfz180_0
             try clear hfz188_0
             try clear hfz192_0
             try clear hfz200_0
             try clear hfz204_0
             try clear hfz22_0
             try clear hfz23_0
             try clear hfz29_0
             try clear hfz36_0
             try clear hfz44_0
             try clear hfz47_0
             try clear hfz54_0
             try clear hfz57_0
             try clear hfz5_0
             try clear hfz64_0
             try clear hfz67_0
             try clear hfz82_0
             try clear hfz92_0
             try clear hfz95_0
             try clear p2
             obtain ⟨kq, x119_144, rfl, HA, HJ144, HO_9, HO_114000, HO_118000, HO_126000, HO_153000, BK101, BK113, BK117, BK125, BK152, HB⟩ := hcut
             have hl9_144 := (Kd.R_reads' HO_9.out).1
             rw [hl9_144] at HO_9
             (try simp only [hl9_144])
             (try simp only [hl9_144] at BK101)
             (try simp only [hl9_144] at BK113)
             (try simp only [hl9_144] at BK117)
             (try simp only [hl9_144] at BK125)
             (try simp only [hl9_144] at BK152)
             (try simp only [hl9_144] at HO_114000)
             (try simp only [hl9_144] at HO_118000)
             (try simp only [hl9_144] at HO_126000)
             (try simp only [hl9_144] at HO_153000)
             have hl126000_144 := (Kd.R_reads' HO_126000.out).1
             rw [hl126000_144] at HO_126000
             (try simp only [hl126000_144])
             (try simp only [hl126000_144] at BK101)
             (try simp only [hl126000_144] at BK113)
             (try simp only [hl126000_144] at BK117)
             (try simp only [hl126000_144] at BK125)
             (try simp only [hl126000_144] at BK152)
             (try simp only [hl126000_144] at HO_9)
             (try simp only [hl126000_144] at HO_114000)
             (try simp only [hl126000_144] at HO_118000)
             (try simp only [hl126000_144] at HO_153000)
             cases kq with
             | zero => exact absurd HA.out (by simp [laws_FnExactSortTasks.j2])
             | succ kj144 =>
              have H := HA.out
              clear HA
              simp only [laws_FnExactSortTasks.j2] at H
              by_cases c206 : x119_144 = true
              ·
               subst c206
               have H1 : (some false) = some r := by rw [if_pos rfl] at H; exact H
               clear H
               have H := H1
               clear H1
               obtain rfl := Option.some.inj H
               go_wp2
               go_ret
               exact ⟨by first | rfl | (simp [errW_none, errW_some] <;> rfl) | (simp [*, errW_none, errW_some] <;> rfl), by repeat (first | (with_reducible first | exact HB.out | apply below_alloc | apply pw_below_drewN | apply below_drew1 | refine below_set ?_ GE101.out | refine below_set ?_ GE113.out | refine below_set ?_ GE117.out | refine below_set ?_ GE125.out | refine below_set ?_ GE152.out) | exact HB.out)⟩
              ·
               replace c206 := Bool.eq_false_iff.mpr c206
               subst c206
               have H1 : ((laws_heldTasks.f kj144 t137 1).bind fun t155 => (if t155 < 0 then (some false) else ((laws_heldInt64S.f kj144 t139 t155).bind fun t156 => (if t156 < 0 then (some false) else (if t156 = t138 then (some true) else (some false)))))) = some r := by rw [if_neg (show ¬ (false = true) by decide)] at H; exact H
               clear H
               have H := H1
               clear H1
               replace H := Option.bind_eq_some_iff.mp H
               obtain ⟨t155, A2070, H⟩ := H
               replace H : (if t155 < 0 then (some false) else ((laws_heldInt64S.f kj144 t139 t155).bind fun t156 => (if t156 < 0 then (some false) else (if t156 = t138 then (some true) else (some false))))) = some r := H
               have A207 := Aside0.mk A2070
               clear A2070
               by_cases c208 : t155 < 0
               ·
                rw [if_pos c208] at H
                have c208b0 : decide (t155 < 0) = true := decide_eq_true c208
                clear c208
                obtain rfl := Option.some.inj H
                have hnb209 := NB125_101.out
                have hnc209 := NB101_125.out
                have hnb210 := NB125_113.out
                have hnc210 := NB113_125.out
                have hnb211 := NB125_117.out
                have hnc211 := NB117_125.out
                have hnb212 := NB125_152.out
                have hnc212 := NB152_125.out
                have hcz213_0 : wc.cell? ⟨gb125, 0, none⟩ = some (.slice Ao32 t137.length co32) := (blk_cell BK125.out 0).trans rfl
                have hfz213_0 := blk_frozen BK125.out 0
                go_wp2_with (first | ((with_reducible refine gate_callee (f := 65) rfl ?_); refine goesL_ (some 122) rfl rfl Try.func65 (by kernel_rfl) rfl #[.agg #[.slice Ao32 t137.length co32], .int .i64 1] rfl (by (try simp only [List.map_toArray, List.map_cons, List.map_nil]); first | done | rfl | (simp only [List.length_drop, List.length_take]; rfl)) ?_; (with_reducible refine (laws_heldTasks.calls kj144 _ _ t137 1 t155 _ ?side1 ?side2 A207.out).mono ?_); (case side1 => repeat (first | exact (Kd.R_reads' HO_126000.out).2.2 | (with_reducible refine Kd.C_alloc ?_ _) | (with_reducible refine Kd.C_drewN ?_ _) | (with_reducible refine Kd.C_drew ?_))); (case side2 => exact (Kd.R_reads' HO_126000.out).2.1); rintro e w214 ⟨rfl, hb⟩; refine ⟨_, rfl, ?_⟩; have n0_ := Aside0.mk (Kd.R_below (by (with_reducible repeat first | apply qc32_4 | apply qc32_5 | apply qc32_6); exact HO_9.out) hb); have n1_ := Aside0.mk (Kd.R_below (by (with_reducible repeat first | apply qc32_4 | apply qc32_5 | apply qc32_6); exact HO_114000.out) hb); have n2_ := Aside0.mk (Kd.R_below (by (with_reducible repeat first | apply qc32_4 | apply qc32_5 | apply qc32_6); exact HO_118000.out) hb); have n3_ := Aside0.mk (Kd.R_below (by (with_reducible repeat first | apply qc32_4 | apply qc32_5 | apply qc32_6); exact HO_126000.out) hb); have n4_ := Aside0.mk (Kd.R_below (by (with_reducible repeat first | apply qc32_4 | apply qc32_5 | apply qc32_6); exact HO_153000.out) hb); have n5_ := Aside0.mk (blk_below (g := gb101) (o := .cells #[.slice A0_0 l0_0.length c0_0] 56 (0, 0)) (by (with_reducible repeat first | apply qc32_7 | apply qc32_8 | apply qc32_9); exact BK101.out) hb); have n6_ := Aside0.mk (blk_below (g := gb113) (o := .cells #[.slice Ao20 t106.length co20] 34 (0, 0)) (by (with_reducible repeat first | apply qc32_7 | apply qc32_8 | apply qc32_9); exact BK113.out) hb); have n7_ := Aside0.mk (blk_below (g := gb117) (o := .cells #[.slice Ao26 t133.length co26] 34 (0, 0)) (by (with_reducible repeat first | apply qc32_7 | apply qc32_8 | apply qc32_9); exact BK117.out) hb); have n8_ := Aside0.mk (blk_below (g := gb125) (o := .cells #[.slice Ao32 t137.length co32] 34 (0, 0)) (by (with_reducible repeat first | apply qc32_7 | apply qc32_8 | apply qc32_9); exact BK125.out) hb); have n9_ := Aside0.mk (blk_below (g := gb152) (o := .cells #[.slice Ao162 t145.length co162] 34 (0, 0)) (by (with_reducible repeat first | apply qc32_7 | apply qc32_8 | apply qc32_9); exact BK152.out) hb); have n10_ := Aside0.mk (below_step (by repeat (first | (with_reducible first | exact HB.out | apply below_alloc | apply pw_below_drewN | apply below_drew1 | refine below_set ?_ GE101.out | refine below_set ?_ GE113.out | refine below_set ?_ GE117.out | refine below_set ?_ GE125.out | refine below_set ?_ GE152.out) | exact HB.out)) hb); clear HO_9; clear HO_114000; clear HO_118000; clear HO_126000; clear HO_153000; clear BK101; clear BK113; clear BK117; clear BK125; clear BK152; clear HB; have HO_9 := n0_; have HO_114000 := n1_; have HO_118000 := n2_; have HO_126000 := n3_; have HO_153000 := n4_; have BK101 := n5_; have BK113 := n6_; have BK117 := n7_; have BK125 := n8_; have BK152 := n9_; have HB := n10_; clear n0_ n1_ n2_ n3_ n4_ n5_ n6_ n7_ n8_ n9_ n10_; (try clear hb); (try clear hb2); (try clear hk); (try clear hi)))
                go_ret
                exact ⟨by first | rfl | (simp [errW_none, errW_some] <;> rfl) | (simp [*, errW_none, errW_some] <;> rfl), by repeat (first | (with_reducible first | exact HB.out | apply below_alloc | apply pw_below_drewN | apply below_drew1 | refine below_set ?_ GE101.out | refine below_set ?_ GE113.out | refine below_set ?_ GE117.out | refine below_set ?_ GE125.out | refine below_set ?_ GE152.out) | exact HB.out)⟩
               ·
                rw [if_neg c208] at H
                have c208b0 : decide (t155 < 0) = false := decide_eq_false c208
                clear c208
                replace H := Option.bind_eq_some_iff.mp H
                obtain ⟨t156, A2150, H⟩ := H
                replace H : (if t156 < 0 then (some false) else (if t156 = t138 then (some true) else (some false))) = some r := H
                have A215 := Aside0.mk A2150
                clear A2150
                by_cases c216 : t156 < 0
                ·
                 rw [if_pos c216] at H
                 have c216b0 : decide (t156 < 0) = true := decide_eq_true c216
                 clear c216
                 obtain rfl := Option.some.inj H
                 have hnb217 := NB125_101.out
                 have hnc217 := NB101_125.out
                 have hnb218 := NB125_113.out
                 have hnc218 := NB113_125.out
                 have hnb219 := NB125_117.out
                 have hnc219 := NB117_125.out
                 have hnb220 := NB125_152.out
                 have hnc220 := NB152_125.out
                 have hcz221_0 : wc.cell? ⟨gb125, 0, none⟩ = some (.slice Ao32 t137.length co32) := (blk_cell BK125.out 0).trans rfl
                 have hfz221_0 := blk_frozen BK125.out 0
                 go_wp2_with (first | ((with_reducible refine gate_callee (f := 65) rfl ?_); refine goesL_ (some 122) rfl rfl Try.func65 (by kernel_rfl) rfl #[.agg #[.slice Ao32 t137.length co32], .int .i64 1] rfl (by (try simp only [List.map_toArray, List.map_cons, List.map_nil]); first | done | rfl | (simp only [List.length_drop, List.length_take]; rfl)) ?_; (with_reducible refine (laws_heldTasks.calls kj144 _ _ t137 1 t155 _ ?side1 ?side2 A207.out).mono ?_); (case side1 => repeat (first | exact (Kd.R_reads' HO_126000.out).2.2 | (with_reducible refine Kd.C_alloc ?_ _) | (with_reducible refine Kd.C_drewN ?_ _) | (with_reducible refine Kd.C_drew ?_))); (case side2 => exact (Kd.R_reads' HO_126000.out).2.1); rintro e w222 ⟨rfl, hb⟩; refine ⟨_, rfl, ?_⟩; have n0_ := Aside0.mk (Kd.R_below (by (with_reducible repeat first | apply qc32_4 | apply qc32_5 | apply qc32_6); exact HO_9.out) hb); have n1_ := Aside0.mk (Kd.R_below (by (with_reducible repeat first | apply qc32_4 | apply qc32_5 | apply qc32_6); exact HO_114000.out) hb); have n2_ := Aside0.mk (Kd.R_below (by (with_reducible repeat first | apply qc32_4 | apply qc32_5 | apply qc32_6); exact HO_118000.out) hb); have n3_ := Aside0.mk (Kd.R_below (by (with_reducible repeat first | apply qc32_4 | apply qc32_5 | apply qc32_6); exact HO_126000.out) hb); have n4_ := Aside0.mk (Kd.R_below (by (with_reducible repeat first | apply qc32_4 | apply qc32_5 | apply qc32_6); exact HO_153000.out) hb); have n5_ := Aside0.mk (blk_below (g := gb101) (o := .cells #[.slice A0_0 l0_0.length c0_0] 56 (0, 0)) (by (with_reducible repeat first | apply qc32_7 | apply qc32_8 | apply qc32_9); exact BK101.out) hb); have n6_ := Aside0.mk (blk_below (g := gb113) (o := .cells #[.slice Ao20 t106.length co20] 34 (0, 0)) (by (with_reducible repeat first | apply qc32_7 | apply qc32_8 | apply qc32_9); exact BK113.out) hb); have n7_ := Aside0.mk (blk_below (g := gb117) (o := .cells #[.slice Ao26 t133.length co26] 34 (0, 0)) (by (with_reducible repeat first | apply qc32_7 | apply qc32_8 | apply qc32_9); exact BK117.out) hb); have n8_ := Aside0.mk (blk_below (g := gb125) (o := .cells #[.slice Ao32 t137.length co32] 34 (0, 0)) (by (with_reducible repeat first | apply qc32_7 | apply qc32_8 | apply qc32_9); exact BK125.out) hb); have n9_ := Aside0.mk (blk_below (g := gb152) (o := .cells #[.slice Ao162 t145.length co162] 34 (0, 0)) (by (with_reducible repeat first | apply qc32_7 | apply qc32_8 | apply qc32_9); exact BK152.out) hb); have n10_ := Aside0.mk (below_step (by repeat (first | (with_reducible first | exact HB.out | apply below_alloc | apply pw_below_drewN | apply below_drew1 | refine below_set ?_ GE101.out | refine below_set ?_ GE113.out | refine below_set ?_ GE117.out | refine below_set ?_ GE125.out | refine below_set ?_ GE152.out) | exact HB.out)) hb); clear HO_9; clear HO_114000; clear HO_118000; clear HO_126000; clear HO_153000; clear BK101; clear BK113; clear BK117; clear BK125; clear BK152; clear HB; have HO_9 := n0_; have HO_114000 := n1_; have HO_118000 := n2_; have HO_126000 := n3_; have HO_153000 := n4_; have BK101 := n5_; have BK113 := n6_; have BK117 := n7_; have BK125 := n8_; have BK152 := n9_; have HB := n10_; clear n0_ n1_ n2_ n3_ n4_ n5_ n6_ n7_ n8_ n9_ n10_; (try clear hb); (try clear hb2); (try clear hk); (try clear hi)) | ((with_reducible refine gate_callee (f := 66) rfl ?_); refine goesL_ (some 127) rfl rfl Try.func66 (by kernel_rfl) rfl #[.slice Ao151 t139.length co151, .int .i64 t155] rfl (by (try simp only [List.map_toArray, List.map_cons, List.map_nil]); first | done | rfl | (simp only [List.length_drop, List.length_take]; rfl)) ?_; (with_reducible refine (laws_heldInt64S.calls kj144 _ _ t139 t155 t156 _ ?side1 ?side2 A215.out).mono ?_); (case side1 => repeat (first | exact (Kd.R_reads' HO_9.out).2.2 | (with_reducible refine Kd.C_alloc ?_ _) | (with_reducible refine Kd.C_drewN ?_ _) | (with_reducible refine Kd.C_drew ?_))); (case side2 => exact (Kd.R_reads' HO_9.out).2.1); rintro e w' ⟨rfl, ⟨nd, rfl⟩⟩; refine ⟨_, rfl, ?_⟩))
                 go_ret
                 exact ⟨by first | rfl | (simp [errW_none, errW_some] <;> rfl) | (simp [*, errW_none, errW_some] <;> rfl), by repeat (first | (with_reducible first | exact HB.out | apply below_alloc | apply pw_below_drewN | apply below_drew1 | refine below_set ?_ GE101.out | refine below_set ?_ GE113.out | refine below_set ?_ GE117.out | refine below_set ?_ GE125.out | refine below_set ?_ GE152.out) | exact HB.out)⟩
                ·
                 rw [if_neg c216] at H
                 have c216b0 : decide (t156 < 0) = false := decide_eq_false c216
                 clear c216
                 by_cases c223 : t156 = t138
                 ·
                  rw [if_pos c223] at H
                  have c223b0 : (t156 == t138) = true := beq_iff_eq.mpr c223
                  have c223b1 : (t156 != t138) = false := bne_eq_false_iff_eq.mpr c223
                  clear c223
                  obtain rfl := Option.some.inj H
                  have hnb224 := NB125_101.out
                  have hnc224 := NB101_125.out
                  have hnb225 := NB125_113.out
                  have hnc225 := NB113_125.out
                  have hnb226 := NB125_117.out
                  have hnc226 := NB117_125.out
                  have hnb227 := NB125_152.out
                  have hnc227 := NB152_125.out
                  have hcz228_0 : wc.cell? ⟨gb125, 0, none⟩ = some (.slice Ao32 t137.length co32) := (blk_cell BK125.out 0).trans rfl
                  have hfz228_0 := blk_frozen BK125.out 0
                  go_wp2_with (first | ((with_reducible refine gate_callee (f := 65) rfl ?_); refine goesL_ (some 122) rfl rfl Try.func65 (by kernel_rfl) rfl #[.agg #[.slice Ao32 t137.length co32], .int .i64 1] rfl (by (try simp only [List.map_toArray, List.map_cons, List.map_nil]); first | done | rfl | (simp only [List.length_drop, List.length_take]; rfl)) ?_; (with_reducible refine (laws_heldTasks.calls kj144 _ _ t137 1 t155 _ ?side1 ?side2 A207.out).mono ?_); (case side1 => repeat (first | exact (Kd.R_reads' HO_126000.out).2.2 | (with_reducible refine Kd.C_alloc ?_ _) | (with_reducible refine Kd.C_drewN ?_ _) | (with_reducible refine Kd.C_drew ?_))); (case side2 => exact (Kd.R_reads' HO_126000.out).2.1); rintro e w229 ⟨rfl, hb⟩; refine ⟨_, rfl, ?_⟩; have n0_ := Aside0.mk (Kd.R_below (by (with_reducible repeat first | apply qc32_4 | apply qc32_5 | apply qc32_6); exact HO_9.out) hb); have n1_ := Aside0.mk (Kd.R_below (by (with_reducible repeat first | apply qc32_4 | apply qc32_5 | apply qc32_6); exact HO_114000.out) hb); have n2_ := Aside0.mk (Kd.R_below (by (with_reducible repeat first | apply qc32_4 | apply qc32_5 | apply qc32_6); exact HO_118000.out) hb); have n3_ := Aside0.mk (Kd.R_below (by (with_reducible repeat first | apply qc32_4 | apply qc32_5 | apply qc32_6); exact HO_126000.out) hb); have n4_ := Aside0.mk (Kd.R_below (by (with_reducible repeat first | apply qc32_4 | apply qc32_5 | apply qc32_6); exact HO_153000.out) hb); have n5_ := Aside0.mk (blk_below (g := gb101) (o := .cells #[.slice A0_0 l0_0.length c0_0] 56 (0, 0)) (by (with_reducible repeat first | apply qc32_7 | apply qc32_8 | apply qc32_9); exact BK101.out) hb); have n6_ := Aside0.mk (blk_below (g := gb113) (o := .cells #[.slice Ao20 t106.length co20] 34 (0, 0)) (by (with_reducible repeat first | apply qc32_7 | apply qc32_8 | apply qc32_9); exact BK113.out) hb); have n7_ := Aside0.mk (blk_below (g := gb117) (o := .cells #[.slice Ao26 t133.length co26] 34 (0, 0)) (by (with_reducible repeat first | apply qc32_7 | apply qc32_8 | apply qc32_9); exact BK117.out) hb); have n8_ := Aside0.mk (blk_below (g := gb125) (o := .cells #[.slice Ao32 t137.length co32] 34 (0, 0)) (by (with_reducible repeat first | apply qc32_7 | apply qc32_8 | apply qc32_9); exact BK125.out) hb); have n9_ := Aside0.mk (blk_below (g := gb152) (o := .cells #[.slice Ao162 t145.length co162] 34 (0, 0)) (by (with_reducible repeat first | apply qc32_7 | apply qc32_8 | apply qc32_9); exact BK152.out) hb); have n10_ := Aside0.mk (below_step (by repeat (first | (with_reducible first | exact HB.out | apply below_alloc | apply pw_below_drewN | apply below_drew1 | refine below_set ?_ GE101.out | refine below_set ?_ GE113.out | refine below_set ?_ GE117.out | refine below_set ?_ GE125.out | refine below_set ?_ GE152.out) | exact HB.out)) hb); clear HO_9; clear HO_114000; clear HO_118000; clear HO_126000; clear HO_153000; clear BK101; clear BK113; clear BK117; clear BK125; clear BK152; clear HB; have HO_9 := n0_; have HO_114000 := n1_; have HO_118000 := n2_; have HO_126000 := n3_; have HO_153000 := n4_; have BK101 := n5_; have BK113 := n6_; have BK117 := n7_; have BK125 := n8_; have BK152 := n9_; have HB := n10_; clear n0_ n1_ n2_ n3_ n4_ n5_ n6_ n7_ n8_ n9_ n10_; (try clear hb); (try clear hb2); (try clear hk); (try clear hi)) | ((with_reducible refine gate_callee (f := 66) rfl ?_); refine goesL_ (some 127) rfl rfl Try.func66 (by kernel_rfl) rfl #[.slice Ao151 t139.length co151, .int .i64 t155] rfl (by (try simp only [List.map_toArray, List.map_cons, List.map_nil]); first | done | rfl | (simp only [List.length_drop, List.length_take]; rfl)) ?_; (with_reducible refine (laws_heldInt64S.calls kj144 _ _ t139 t155 t156 _ ?side1 ?side2 A215.out).mono ?_); (case side1 => repeat (first | exact (Kd.R_reads' HO_9.out).2.2 | (with_reducible refine Kd.C_alloc ?_ _) | (with_reducible refine Kd.C_drewN ?_ _) | (with_reducible refine Kd.C_drew ?_))); (case side2 => exact (Kd.R_reads' HO_9.out).2.1); rintro e w' ⟨rfl, ⟨nd, rfl⟩⟩; refine ⟨_, rfl, ?_⟩))
                  go_ret
                  exact ⟨by first | rfl | (simp [errW_none, errW_some] <;> rfl) | (simp [*, errW_none, errW_some] <;> rfl), by repeat (first | (with_reducible first | exact HB.out | apply below_alloc | apply pw_below_drewN | apply below_drew1 | refine below_set ?_ GE101.out | refine below_set ?_ GE113.out | refine below_set ?_ GE117.out | refine below_set ?_ GE125.out | refine below_set ?_ GE152.out) | exact HB.out)⟩
                 ·
                  rw [if_neg c223] at H
                  have c223b0 : (t156 == t138) = false := beq_eq_false_iff_ne.mpr c223
                  have c223b1 : (t156 != t138) = true := bne_iff_ne.mpr c223
                  obtain rfl := Option.some.inj H
                  have hnb230 := NB125_101.out
                  have hnc230 := NB101_125.out
                  have hnb231 := NB125_113.out
                  have hnc231 := NB113_125.out
                  have hnb232 := NB125_117.out
                  have hnc232 := NB117_125.out
                  have hnb233 := NB125_152.out
                  have hnc233 := NB152_125.out
                  have hcz234_0 : wc.cell? ⟨gb125, 0, none⟩ = some (.slice Ao32 t137.length co32) := (blk_cell BK125.out 0).trans rfl
                  have hfz234_0 := blk_frozen BK125.out 0
                  go_wp2_with (first | ((with_reducible refine gate_callee (f := 65) rfl ?_); refine goesL_ (some 122) rfl rfl Try.func65 (by kernel_rfl) rfl #[.agg #[.slice Ao32 t137.length co32], .int .i64 1] rfl (by (try simp only [List.map_toArray, List.map_cons, List.map_nil]); first | done | rfl | (simp only [List.length_drop, List.length_take]; rfl)) ?_; (with_reducible refine (laws_heldTasks.calls kj144 _ _ t137 1 t155 _ ?side1 ?side2 A207.out).mono ?_); (case side1 => repeat (first | exact (Kd.R_reads' HO_126000.out).2.2 | (with_reducible refine Kd.C_alloc ?_ _) | (with_reducible refine Kd.C_drewN ?_ _) | (with_reducible refine Kd.C_drew ?_))); (case side2 => exact (Kd.R_reads' HO_126000.out).2.1); rintro e w235 ⟨rfl, hb⟩; refine ⟨_, rfl, ?_⟩; have n0_ := Aside0.mk (Kd.R_below (by (with_reducible repeat first | apply qc32_4 | apply qc32_5 | apply qc32_6); exact HO_9.out) hb); have n1_ := Aside0.mk (Kd.R_below (by (with_reducible repeat first | apply qc32_4 | apply qc32_5 | apply qc32_6); exact HO_114000.out) hb); have n2_ := Aside0.mk (Kd.R_below (by (with_reducible repeat first | apply qc32_4 | apply qc32_5 | apply qc32_6); exact HO_118000.out) hb); have n3_ := Aside0.mk (Kd.R_below (by (with_reducible repeat first | apply qc32_4 | apply qc32_5 | apply qc32_6); exact HO_126000.out) hb); have n4_ := Aside0.mk (Kd.R_below (by (with_reducible repeat first | apply qc32_4 | apply qc32_5 | apply qc32_6); exact HO_153000.out) hb); have n5_ := Aside0.mk (blk_below (g := gb101) (o := .cells #[.slice A0_0 l0_0.length c0_0] 56 (0, 0)) (by (with_reducible repeat first | apply qc32_7 | apply qc32_8 | apply qc32_9); exact BK101.out) hb); have n6_ := Aside0.mk (blk_below (g := gb113) (o := .cells #[.slice Ao20 t106.length co20] 34 (0, 0)) (by (with_reducible repeat first | apply qc32_7 | apply qc32_8 | apply qc32_9); exact BK113.out) hb); have n7_ := Aside0.mk (blk_below (g := gb117) (o := .cells #[.slice Ao26 t133.length co26] 34 (0, 0)) (by (with_reducible repeat first | apply qc32_7 | apply qc32_8 | apply qc32_9); exact BK117.out) hb); have n8_ := Aside0.mk (blk_below (g := gb125) (o := .cells #[.slice Ao32 t137.length co32] 34 (0, 0)) (by (with_reducible repeat first | apply qc32_7 | apply qc32_8 | apply qc32_9); exact BK125.out) hb); have n9_ := Aside0.mk (blk_below (g := gb152) (o := .cells #[.slice Ao162 t145.length co162] 34 (0, 0)) (by (with_reducible repeat first | apply qc32_7 | apply qc32_8 | apply qc32_9); exact BK152.out) hb); have n10_ := Aside0.mk (below_step (by repeat (first | (with_reducible first | exact HB.out | apply below_alloc | apply pw_below_drewN | apply below_drew1 | refine below_set ?_ GE101.out | refine below_set ?_ GE113.out | refine below_set ?_ GE117.out | refine below_set ?_ GE125.out | refine below_set ?_ GE152.out) | exact HB.out)) hb); clear HO_9; clear HO_114000; clear HO_118000; clear HO_126000; clear HO_153000; clear BK101; clear BK113; clear BK117; clear BK125; clear BK152; clear HB; have HO_9 := n0_; have HO_114000 := n1_; have HO_118000 := n2_; have HO_126000 := n3_; have HO_153000 := n4_; have BK101 := n5_; have BK113 := n6_; have BK117 := n7_; have BK125 := n8_; have BK152 := n9_; have HB := n10_; clear n0_ n1_ n2_ n3_ n4_ n5_ n6_ n7_ n8_ n9_ n10_; (try clear hb); (try clear hb2); (try clear hk); (try clear hi)) | ((with_reducible refine gate_callee (f := 66) rfl ?_); refine goesL_ (some 127) rfl rfl Try.func66 (by kernel_rfl) rfl #[.slice Ao151 t139.length co151, .int .i64 t155] rfl (by (try simp only [List.map_toArray, List.map_cons, List.map_nil]); first | done | rfl | (simp only [List.length_drop, List.length_take]; rfl)) ?_; (with_reducible refine (laws_heldInt64S.calls kj144 _ _ t139 t155 t156 _ ?side1 ?side2 A215.out).mono ?_); (case side1 => repeat (first | exact (Kd.R_reads' HO_9.out).2.2 | (with_reducible refine Kd.C_alloc ?_ _) | (with_reducible refine Kd.C_drewN ?_ _) | (with_reducible refine Kd.C_drew ?_))); (case side2 => exact (Kd.R_reads' HO_9.out).2.1); rintro e w' ⟨rfl, ⟨nd, rfl⟩⟩; refine ⟨_, rfl, ?_⟩))
                  go_ret
                  exact ⟨by first | rfl | (simp [errW_none, errW_some] <;> rfl) | (simp [*, errW_none, errW_some] <;> rfl), by repeat (first | (with_reducible first | exact HB.out | apply below_alloc | apply pw_below_drewN | apply below_drew1 | refine below_set ?_ GE101.out | refine below_set ?_ GE113.out | refine below_set ?_ GE117.out | refine below_set ?_ GE125.out | refine below_set ?_ GE152.out) | exact HB.out)⟩
           ·
            rw [if_neg c142] at H
            have c142b0 : (t141 == t138) = false := beq_eq_false_iff_ne.mpr c142
            have c142b1 : (t141 != t138) = true := bne_iff_ne.mpr c142
            obtain rfl := Option.some.inj H
            have hnb236 := NB125_101.out
            have hnc236 := NB101_125.out
            have hnb237 := NB125_113.out
            have hnc237 := NB113_125.out
            have hnb238 := NB125_117.out
            have hnc238 := NB117_125.out
            have hcz239_0 : wc.cell? ⟨gb125, 0, none⟩ = some (.slice Ao32 t118.length co32) := (blk_cell BK125.out 0).trans rfl
            have hfz239_0 := blk_frozen BK125.out 0
            go_wp2_with (first | ((with_reducible refine gate_callee (f := 63) rfl ?_); refine goesL_ (some 81) rfl rfl Try.func63 (by kernel_rfl) rfl #[.agg #[.slice Ao32 t118.length co32], .int .i64 1] rfl (by (try simp only [List.map_toArray, List.map_cons, List.map_nil]); first | done | rfl | (simp only [List.length_drop, List.length_take]; rfl)) ?_; (with_reducible refine (laws_markTasks.calls kj73 (fun k_ => some k_ = (.slice Ao32 t118.length co32 : Value).ownBlock) (.slice Ao32 t118.length co32) t118 1 t136 t137 w _ ?side1 ?side2 A118.out).mono ?_); (case side1 => repeat (first | (with_reducible first | exact HB.out | apply below_alloc | apply pw_below_drewN | apply below_drew1 | refine below_set ?_ GE101.out | refine below_set ?_ GE113.out | refine below_set ?_ GE117.out | refine below_set ?_ GE125.out) | exact HB.out)); (case side2 => exact Kd.R_tight rfl HO_126000.out); rintro e w240 ⟨rfl, hy0, hb, hkp⟩; refine ⟨_, rfl, ?_⟩; have n0_ := Aside0.mk (Kd.R_mono (ok' := fun k_ => some k_ ≠ (v122 : Value).ownBlock ∧ some k_ ≠ (.slice Ao20 t106.length co20 : Value).ownBlock ∧ some k_ ≠ (.slice Ao26 t133.length co26 : Value).ownBlock ∧ some k_ ≠ (.slice Ao32 t118.length co32 : Value).ownBlock) (Kd.R_keptB (HO_5.out) hkp (fun k_ hk_ hs_ => (hk_.2.2.2) hs_)) (fun k_ hk_ => ⟨hk_.1.1, hk_.1.2.1, hk_.1.2.2.1, hk_.1.2.2.2⟩)); have n1_ := Aside0.mk (Kd.R_mono (ok' := fun k_ => some k_ ≠ (v110 : Value).ownBlock ∧ some k_ ≠ (.slice Ao20 t106.length co20 : Value).ownBlock ∧ some k_ ≠ (.slice Ao26 t133.length co26 : Value).ownBlock ∧ some k_ ≠ (.slice Ao32 t118.length co32 : Value).ownBlock) (Kd.R_keptB (HO_9.out) hkp (fun k_ hk_ hs_ => (hk_.2.2.2) hs_)) (fun k_ hk_ => ⟨hk_.1.1, hk_.1.2.1, hk_.1.2.2.1, hk_.1.2.2.2⟩)); have n2_ := Aside0.mk (Kd.R_mono (ok' := fun k_ => some k_ ≠ (v110 : Value).ownBlock ∧ some k_ ≠ (v122 : Value).ownBlock ∧ some k_ ≠ (.slice Ao26 t133.length co26 : Value).ownBlock ∧ some k_ ≠ (.slice Ao32 t118.length co32 : Value).ownBlock) (Kd.R_keptB (HO_114000.out) hkp (fun k_ hk_ hs_ => (hk_.2.2.2) hs_)) (fun k_ hk_ => ⟨hk_.1.1, hk_.1.2.1, hk_.1.2.2.1, hk_.1.2.2.2⟩)); have n3_ := Aside0.mk (Kd.R_mono (ok' := fun k_ => some k_ ≠ (v110 : Value).ownBlock ∧ some k_ ≠ (v122 : Value).ownBlock ∧ some k_ ≠ (.slice Ao20 t106.length co20 : Value).ownBlock ∧ some k_ ≠ (.slice Ao32 t118.length co32 : Value).ownBlock) (Kd.R_keptB (HO_118000.out) hkp (fun k_ hk_ hs_ => (hk_.2.2.2) hs_)) (fun k_ hk_ => ⟨hk_.1.1, hk_.1.2.1, hk_.1.2.2.1, hk_.1.2.2.2⟩)); have n4_ := Aside0.mk (Kd.R_reok rfl hy0 (fun k_ e_ => HO_126000.out.1 k_ e_)); have n5_ := Aside0.mk (blk_kept (by (with_reducible repeat first | apply qc32_7 | apply qc32_8 | apply qc32_9); exact BK101.out) hkp (fun hs_ => (fun e_ => (Kd.R_ne HO_126000.out BK101.out (by decide)) e_) hs_)); have n6_ := Aside0.mk (blk_kept (by (with_reducible repeat first | apply qc32_7 | apply qc32_8 | apply qc32_9); exact BK113.out) hkp (fun hs_ => (fun e_ => (Kd.R_ne HO_126000.out BK113.out (by decide)) e_) hs_)); have n7_ := Aside0.mk (blk_kept (by (with_reducible repeat first | apply qc32_7 | apply qc32_8 | apply qc32_9); exact BK117.out) hkp (fun hs_ => (fun e_ => (Kd.R_ne HO_126000.out BK117.out (by decide)) e_) hs_)); have n8_ := Aside0.mk (blk_kept (by (with_reducible repeat first | apply qc32_7 | apply qc32_8 | apply qc32_9); exact BK125.out) hkp (fun hs_ => (fun e_ => (Kd.R_ne HO_126000.out BK125.out (by decide)) e_) hs_)); have n9_ := Aside0.mk (hb); clear HO_5; clear HO_9; clear HO_114000; clear HO_118000; clear HO_126000; clear BK101; clear BK113; clear BK117; clear BK125; clear HB; have HO_5 := n0_; have HO_9 := n1_; have HO_114000 := n2_; have HO_118000 := n3_; have HO_126000 := n4_; have BK101 := n5_; have BK113 := n6_; have BK117 := n7_; have BK125 := n8_; have HB := n9_; clear n0_ n1_ n2_ n3_ n4_ n5_ n6_ n7_ n8_ n9_; (try clear hb); (try clear hkp); (try clear hy0); obtain ⟨Ao241, co241, eo241⟩ := Kd.R_slice HO_9.out; subst eo241) | ((with_reducible refine gate_callee (f := 64) rfl ?_); refine goesL_ (some 84) rfl rfl Try.func64 (by kernel_rfl) rfl #[.slice Ao241 t121.length co241, .int .i64 t136] rfl (by (try simp only [List.map_toArray, List.map_cons, List.map_nil]); first | done | rfl | (simp only [List.length_drop, List.length_take]; rfl)) ?_; (with_reducible refine (laws_markInt64S.calls kj73 (fun k_ => some k_ = (.slice Ao241 t121.length co241 : Value).ownBlock) (.slice Ao241 t121.length co241) t121 t136 t138 t139 w _ ?side1 ?side2 A119.out).mono ?_); (case side1 => repeat (first | (with_reducible first | exact HB.out | apply below_alloc | apply pw_below_drewN | apply below_drew1 | refine below_set ?_ GE101.out | refine below_set ?_ GE113.out | refine below_set ?_ GE117.out | refine below_set ?_ GE125.out) | exact HB.out)); (case side2 => exact Kd.R_tight rfl HO_9.out); rintro e w242 ⟨rfl, hy0, hb, hkp⟩; refine ⟨_, rfl, ?_⟩; have n0_ := Aside0.mk (Kd.R_mono (ok' := fun k_ => some k_ ≠ (.slice Ao241 t121.length co241 : Value).ownBlock ∧ some k_ ≠ (.slice Ao20 t106.length co20 : Value).ownBlock ∧ some k_ ≠ (.slice Ao26 t133.length co26 : Value).ownBlock ∧ some k_ ≠ (.slice Ao32 t118.length co32 : Value).ownBlock) (Kd.R_keptB (HO_5.out) hkp (fun k_ hk_ hs_ => (hk_.1) hs_)) (fun k_ hk_ => ⟨hk_.1.1, hk_.1.2.1, hk_.1.2.2.1, hk_.1.2.2.2⟩)); have n1_ := Aside0.mk (Kd.R_reok rfl hy0 (fun k_ e_ => HO_9.out.1 k_ e_)); have n2_ := Aside0.mk (Kd.R_mono (ok' := fun k_ => some k_ ≠ (v110 : Value).ownBlock ∧ some k_ ≠ (.slice Ao241 t121.length co241 : Value).ownBlock ∧ some k_ ≠ (.slice Ao26 t133.length co26 : Value).ownBlock ∧ some k_ ≠ (.slice Ao32 t118.length co32 : Value).ownBlock) (Kd.R_keptB (HO_114000.out) hkp (fun k_ hk_ hs_ => (hk_.2.1) hs_)) (fun k_ hk_ => ⟨hk_.1.1, hk_.1.2.1, hk_.1.2.2.1, hk_.1.2.2.2⟩)); have n3_ := Aside0.mk (Kd.R_mono (ok' := fun k_ => some k_ ≠ (v110 : Value).ownBlock ∧ some k_ ≠ (.slice Ao241 t121.length co241 : Value).ownBlock ∧ some k_ ≠ (.slice Ao20 t106.length co20 : Value).ownBlock ∧ some k_ ≠ (.slice Ao32 t118.length co32 : Value).ownBlock) (Kd.R_keptB (HO_118000.out) hkp (fun k_ hk_ hs_ => (hk_.2.1) hs_)) (fun k_ hk_ => ⟨hk_.1.1, hk_.1.2.1, hk_.1.2.2.1, hk_.1.2.2.2⟩)); have n4_ := Aside0.mk (Kd.R_mono (ok' := fun k_ => some k_ ≠ (v110 : Value).ownBlock ∧ some k_ ≠ (.slice Ao241 t121.length co241 : Value).ownBlock ∧ some k_ ≠ (.slice Ao20 t106.length co20 : Value).ownBlock ∧ some k_ ≠ (.slice Ao26 t133.length co26 : Value).ownBlock) (Kd.R_keptB (HO_126000.out) hkp (fun k_ hk_ hs_ => (hk_.2.1) hs_)) (fun k_ hk_ => ⟨hk_.1.1, hk_.1.2.1, hk_.1.2.2.1, hk_.1.2.2.2⟩)); have n5_ := Aside0.mk (blk_kept (by (with_reducible repeat first | apply qc32_7 | apply qc32_8 | apply qc32_9); exact BK101.out) hkp (fun hs_ => (fun e_ => (Kd.R_ne HO_9.out BK101.out (by decide)) e_) hs_)); have n6_ := Aside0.mk (blk_kept (by (with_reducible repeat first | apply qc32_7 | apply qc32_8 | apply qc32_9); exact BK113.out) hkp (fun hs_ => (fun e_ => (Kd.R_ne HO_9.out BK113.out (by decide)) e_) hs_)); have n7_ := Aside0.mk (blk_kept (by (with_reducible repeat first | apply qc32_7 | apply qc32_8 | apply qc32_9); exact BK117.out) hkp (fun hs_ => (fun e_ => (Kd.R_ne HO_9.out BK117.out (by decide)) e_) hs_)); have n8_ := Aside0.mk (blk_kept (by (with_reducible repeat first | apply qc32_7 | apply qc32_8 | apply qc32_9); exact BK125.out) hkp (fun hs_ => (fun e_ => (Kd.R_ne HO_9.out BK125.out (by decide)) e_) hs_)); have n9_ := Aside0.mk (hb); clear HO_5; clear HO_9; clear HO_114000; clear HO_118000; clear HO_126000; clear BK101; clear BK113; clear BK117; clear BK125; clear HB; have HO_5 := n0_; have HO_9 := n1_; have HO_114000 := n2_; have HO_118000 := n3_; have HO_126000 := n4_; have BK101 := n5_; have BK113 := n6_; have BK117 := n7_; have BK125 := n8_; have HB := n9_; clear n0_ n1_ n2_ n3_ n4_ n5_ n6_ n7_ n8_ n9_; (try clear hb); (try clear hkp); (try clear hy0); have hcz243_0 : w242.cell? ⟨gb125, 0, none⟩ = some (.slice Ao32 t118.length co32) := (blk_cell BK125.out 0).trans rfl; have hfz243_0 := blk_frozen BK125.out 0) | ((with_reducible refine gate_callee (f := 65) rfl ?_); refine goesL_ (some 87) rfl rfl Try.func65 (by kernel_rfl) rfl #[.agg #[.slice Ao32 t137.length co32], .int .i64 1] rfl (by (try simp only [List.map_toArray, List.map_cons, List.map_nil]); first | done | (rw [show t137.length = t118.length from (Kd.R_reads' HO_126000.out).1.symm] <;> rfl) | rfl | (simp only [List.length_drop, List.length_take]; rfl)) ?_; (with_reducible refine (laws_heldTasks.calls kj73 _ _ t137 1 t140 _ ?side1 ?side2 A120.out).mono ?_); (case side1 => repeat (first | exact (Kd.R_reads' HO_126000.out).2.2 | (with_reducible refine Kd.C_alloc ?_ _) | (with_reducible refine Kd.C_drewN ?_ _) | (with_reducible refine Kd.C_drew ?_))); (case side2 => rw [show t137.length = t118.length from (Kd.R_reads' HO_126000.out).1.symm]; exact (Kd.R_reads' HO_126000.out).2.1); rintro e w244 ⟨rfl, hb⟩; refine ⟨_, rfl, ?_⟩; have n0_ := Aside0.mk (Kd.R_below (by (with_reducible repeat first | apply qc32_4 | apply qc32_5 | apply qc32_6); exact HO_5.out) hb); have n1_ := Aside0.mk (Kd.R_below (by (with_reducible repeat first | apply qc32_4 | apply qc32_5 | apply qc32_6); exact HO_9.out) hb); have n2_ := Aside0.mk (Kd.R_below (by (with_reducible repeat first | apply qc32_4 | apply qc32_5 | apply qc32_6); exact HO_114000.out) hb); have n3_ := Aside0.mk (Kd.R_below (by (with_reducible repeat first | apply qc32_4 | apply qc32_5 | apply qc32_6); exact HO_118000.out) hb); have n4_ := Aside0.mk (Kd.R_below (by (with_reducible repeat first | apply qc32_4 | apply qc32_5 | apply qc32_6); exact HO_126000.out) hb); have n5_ := Aside0.mk (blk_below (g := gb101) (o := .cells #[.slice A0_0 l0_0.length c0_0] 56 (0, 0)) (by (with_reducible repeat first | apply qc32_7 | apply qc32_8 | apply qc32_9); exact BK101.out) hb); have n6_ := Aside0.mk (blk_below (g := gb113) (o := .cells #[.slice Ao20 t106.length co20] 34 (0, 0)) (by (with_reducible repeat first | apply qc32_7 | apply qc32_8 | apply qc32_9); exact BK113.out) hb); have n7_ := Aside0.mk (blk_below (g := gb117) (o := .cells #[.slice Ao26 t133.length co26] 34 (0, 0)) (by (with_reducible repeat first | apply qc32_7 | apply qc32_8 | apply qc32_9); exact BK117.out) hb); have n8_ := Aside0.mk (blk_below (g := gb125) (o := .cells #[.slice Ao32 t118.length co32] 34 (0, 0)) (by (with_reducible repeat first | apply qc32_7 | apply qc32_8 | apply qc32_9); exact BK125.out) hb); have n9_ := Aside0.mk (below_step (by repeat (first | (with_reducible first | exact HB.out | apply below_alloc | apply pw_below_drewN | apply below_drew1 | refine below_set ?_ GE101.out | refine below_set ?_ GE113.out | refine below_set ?_ GE117.out | refine below_set ?_ GE125.out) | exact HB.out)) hb); clear HO_5; clear HO_9; clear HO_114000; clear HO_118000; clear HO_126000; clear BK101; clear BK113; clear BK117; clear BK125; clear HB; have HO_5 := n0_; have HO_9 := n1_; have HO_114000 := n2_; have HO_118000 := n3_; have HO_126000 := n4_; have BK101 := n5_; have BK113 := n6_; have BK117 := n7_; have BK125 := n8_; have HB := n9_; clear n0_ n1_ n2_ n3_ n4_ n5_ n6_ n7_ n8_ n9_; (try clear hb); (try clear hb2); (try clear hk); (try clear hi)) | ((with_reducible refine gate_callee (f := 66) rfl ?_); refine goesL_ (some 92) rfl rfl Try.func66 (by kernel_rfl) rfl #[.slice Ao241 t139.length co241, .int .i64 t140] rfl (by (try simp only [List.map_toArray, List.map_cons, List.map_nil]); first | done | (rw [show t139.length = t121.length from (Kd.R_reads' HO_9.out).1.symm] <;> rfl) | rfl | (simp only [List.length_drop, List.length_take]; rfl)) ?_; (with_reducible refine (laws_heldInt64S.calls kj73 _ _ t139 t140 t141 _ ?side1 ?side2 A131.out).mono ?_); (case side1 => repeat (first | exact (Kd.R_reads' HO_9.out).2.2 | (with_reducible refine Kd.C_alloc ?_ _) | (with_reducible refine Kd.C_drewN ?_ _) | (with_reducible refine Kd.C_drew ?_))); (case side2 => rw [show t139.length = t121.length from (Kd.R_reads' HO_9.out).1.symm]; exact (Kd.R_reads' HO_9.out).2.1); rintro e w' ⟨rfl, ⟨nd, rfl⟩⟩; refine ⟨_, rfl, ?_⟩))
            go_ret
            exact ⟨by first | rfl | (simp [errW_none, errW_some] <;> rfl) | (simp [*, errW_none, errW_some] <;> rfl), by repeat (first | (with_reducible first | exact HB.out | apply below_alloc | apply pw_below_drewN | apply below_drew1 | refine below_set ?_ GE101.out | refine below_set ?_ GE113.out | refine below_set ?_ GE117.out | refine below_set ?_ GE125.out) | exact HB.out)⟩
     ·
      replace c72 := Bool.eq_false_iff.mpr c72
      subst c72
      have H1 : (some false) = some r := by rw [if_neg (show ¬ (false = true) by decide)] at H; exact H
      clear H
      have H := H1
      clear H1
      obtain rfl := Option.some.inj H
      try go_wp2
      have n0_ := Aside0.mk (Kd.R_drew HO_5.out)
      have n1_ := Aside0.mk (Kd.R_drew HO_9.out)
      have n2_ := Aside0.mk (Kd.R_drew HO_114000.out)
      have n3_ := Aside0.mk (Kd.R_drew HO_118000.out)
      have n4_ := Aside0.mk (Kd.R_drew HO_126000.out)
      have n5_ := Aside0.mk (blk_drew BK101.out)
      have n6_ := Aside0.mk (blk_drew BK113.out)
      have n7_ := Aside0.mk (blk_drew BK117.out)
      have n8_ := Aside0.mk (blk_drew BK125.out)
      have n9_ := Aside0.mk (below_drew1 HB.out)
      clear HO_5
      clear HO_9
      clear HO_114000
      clear HO_118000
      clear HO_126000
      clear BK101
      clear BK113
      clear BK117
      clear BK125
      clear HB
      have HO_5 := n0_
      have HO_9 := n1_
      have HO_114000 := n2_
      have HO_118000 := n3_
      have HO_126000 := n4_
      have BK101 := n5_
      have BK113 := n6_
      have BK117 := n7_
      have BK125 := n8_
      have HB := n9_
      clear n0_ n1_ n2_ n3_ n4_ n5_ n6_ n7_ n8_ n9_
      refine start_ (n := 5) (S := fun w' => w'.cell? ⟨gb117, 0, none⟩ = some (.slice Ao26 t114.length co26) ∧ w'.cell? ⟨gb101, 0, none⟩ = some (.slice A0_0 l0_0.length c0_0)) (ds := []) #[false,false,false,false,false] (by kernel_rfl) rfl rfl ⟨(blk_cell BK117.out 0).trans rfl, (blk_cell BK101.out 0).trans rfl⟩ (fun hHeld => ?_)
      generalize wc.drew = w245 at HO_5 HO_9 HO_114000 HO_118000 HO_126000 BK101 BK113 BK117 BK125 HB hHeld ⊢
      refine take_ (i := 0) (N := some 52) (v := ?_) (a' := ?_) #[true,false,false,false,false] rfl rfl (by kernel_rfl) (fun _ _ _ h => h) (Or.inl ⟨by rfl, ?_⟩) hHeld ?_ ?_
      rotate_left; (· rintro w' ⟨s0, s1⟩; go_simp; with_reducible rfl); rotate_left; (· simp only [Act.put, qc32_1, qc32_2, qc32_3, i64_w, i32_w]; rfl)
      refine take_ (i := 1) (N := some 53) (v := ?_) (a' := ?_) #[true,true,false,false,false] rfl rfl (by kernel_rfl) (fun _ _ _ h => h) (Or.inl ⟨by rfl, ?_⟩) hHeld ?_ ?_
      rotate_left; (· rintro w' ⟨s0, s1⟩; go_simp; with_reducible rfl); rotate_left; (· simp only [Act.put, qc32_1, qc32_2, qc32_3, i64_w, i32_w]; rfl)
      refine one_ (i := 2) (N := some 54) #[true,true,true,false,false] rfl rfl (by kernel_rfl) (by decide) (fun K hK => ?_)
      refine goes_ Try.func59 (by kernel_rfl) rfl #[.agg #[.slice A0_0 l0_0.length c0_0]] (by rfl) rfl rfl (by (try simp only [List.map_toArray, List.map_cons, List.map_nil]); first | done | rfl | (simp only [List.length_drop, List.length_take]; rfl)) ?_
      with_reducible refine (laws_toTasks.calls kj10 _ _ l0_0 t128 _ ?side1 ?side2 A70.out).mono ?_
      (case side1 => repeat (first | exact (Kd.C_below HR0_0.out HB.out) | (with_reducible refine Kd.C_alloc ?_ _) | (with_reducible refine Kd.C_drewN ?_ _) | (with_reducible refine Kd.C_drew ?_)))
      (case side2 => exact HC0_0.out)
      rintro e w246 ⟨v129, rfl, ho0, hb⟩
      refine ⟨_, rfl, ?_⟩
      have n0_ := Aside0.mk (Kd.R_elder' (by (with_reducible repeat first | apply qc32_4 | apply qc32_5 | apply qc32_6); exact HO_5.out) (Kd.R_base ho0) hb)
      have n1_ := Aside0.mk (Kd.R_elder' (by (with_reducible repeat first | apply qc32_4 | apply qc32_5 | apply qc32_6); exact HO_9.out) (Kd.R_base ho0) hb)
      have n2_ := Aside0.mk (Kd.R_elder' (by (with_reducible repeat first | apply qc32_4 | apply qc32_5 | apply qc32_6); exact HO_114000.out) (Kd.R_base ho0) hb)
      have n3_ := Aside0.mk (Kd.R_elder' (by (with_reducible repeat first | apply qc32_4 | apply qc32_5 | apply qc32_6); exact HO_118000.out) (Kd.R_base ho0) hb)
      have n4_ := Aside0.mk (Kd.R_elder' (by (with_reducible repeat first | apply qc32_4 | apply qc32_5 | apply qc32_6); exact HO_126000.out) (Kd.R_base ho0) hb)
      have n5_ := Aside0.mk (Kd.R_lower (Kd.R_new' (Kd.R_new' (Kd.R_new' (Kd.R_new' (Kd.R_new' ho0 (Kd.R_lt (by (with_reducible repeat first | apply qc32_4 | apply qc32_5 | apply qc32_6); exact HO_5.out))) (Kd.R_lt (by (with_reducible repeat first | apply qc32_4 | apply qc32_5 | apply qc32_6); exact HO_9.out))) (Kd.R_lt (by (with_reducible repeat first | apply qc32_4 | apply qc32_5 | apply qc32_6); exact HO_114000.out))) (Kd.R_lt (by (with_reducible repeat first | apply qc32_4 | apply qc32_5 | apply qc32_6); exact HO_118000.out))) (Kd.R_lt (by (with_reducible repeat first | apply qc32_4 | apply qc32_5 | apply qc32_6); exact HO_126000.out))) (below_size (by repeat (first | (with_reducible first | exact HB.out | apply below_alloc | apply pw_below_drewN | apply below_drew1 | refine below_set ?_ GE101.out | refine below_set ?_ GE113.out | refine below_set ?_ GE117.out | refine below_set ?_ GE125.out) | exact HB.out))))
      have n6_ := Aside0.mk (blk_below (g := gb101) (o := .cells #[.slice A0_0 l0_0.length c0_0] 56 (0, 0)) (by (with_reducible repeat first | apply qc32_7 | apply qc32_8 | apply qc32_9); exact BK101.out) hb)
      have n7_ := Aside0.mk (blk_below (g := gb113) (o := .cells #[.slice Ao20 t106.length co20] 34 (0, 0)) (by (with_reducible repeat first | apply qc32_7 | apply qc32_8 | apply qc32_9); exact BK113.out) hb)
      have n8_ := Aside0.mk (blk_below (g := gb117) (o := .cells #[.slice Ao26 t114.length co26] 34 (0, 0)) (by (with_reducible repeat first | apply qc32_7 | apply qc32_8 | apply qc32_9); exact BK117.out) hb)
      have n9_ := Aside0.mk (blk_below (g := gb125) (o := .cells #[.slice Ao32 t118.length co32] 34 (0, 0)) (by (with_reducible repeat first | apply qc32_7 | apply qc32_8 | apply qc32_9); exact BK125.out) hb)
      have n10_ := Aside0.mk (below_step (by repeat (first | (with_reducible first | exact HB.out | apply below_alloc | apply pw_below_drewN | apply below_drew1 | refine below_set ?_ GE101.out | refine below_set ?_ GE113.out | refine below_set ?_ GE117.out | refine below_set ?_ GE125.out) | exact HB.out)) hb)
      clear HO_5
      clear HO_9
      clear HO_114000
      clear HO_118000
      clear HO_126000
      clear BK101
      clear BK113
      clear BK117
      clear BK125
      clear HB
      have HO_5 := n0_
      have HO_9 := n1_
      have HO_114000 := n2_
      have HO_118000 := n3_
      have HO_126000 := n4_
      have HO130 := n5_
      have BK101 := n6_
      have BK113 := n7_
      have BK117 := n8_
      have BK125 := n9_
      have HB := n10_
      clear n0_ n1_ n2_ n3_ n4_ n5_ n6_ n7_ n8_ n9_ n10_
      (try clear hb)
      (try clear hb2)
      (try clear hk)
      (try clear hi)
      (try clear ho0)
      obtain ⟨Ao247, co247, eo247⟩ := Kd.R_slice HO130.out
      (first | subst eo247 | (injection eo247 with f1_ f2_ f3_; have f4_ := f1_.symm; have f5_ := f3_.symm; clear f1_ f2_ f3_; subst f4_; subst f5_))
      refine hK.out _ _ ⟨(blk_cell BK117.out 0).trans rfl, (blk_cell BK101.out 0).trans rfl⟩ (fun hHeld => ?_)
      clear hK K
      refine norm_ (a' := ?_) ?_ ?_
      rotate_left
      ·
       show Act.put _ (some 54) _ = _
       simp only [Act.put, qc32_1, qc32_2, qc32_3, i64_w, i32_w]
       rfl
      refine one_ (i := 3) (N := some 55) #[true,true,true,true,false] rfl rfl (by kernel_rfl) (by decide) (fun K hK => ?_)
      refine goes_ Try.func61 (by kernel_rfl) rfl #[.agg #[.slice Ao26 t114.length co26], .agg #[.slice Ao247 t128.length co247]] (by rfl) rfl rfl (by (try simp only [List.map_toArray, List.map_cons, List.map_nil]); first | done | rfl | (simp only [List.length_drop, List.length_take]; rfl)) ?_
      with_reducible refine (laws_eqTasks.calls kj10 _ _ t114 _ _ t128 false _ ?side1 ?side2 ?side3 ?side4 A71.out).mono ?_
      (case side1 => repeat (first | exact (Kd.R_reads' HO_118000.out).2.2 | (with_reducible refine Kd.C_alloc ?_ _) | (with_reducible refine Kd.C_drewN ?_ _) | (with_reducible refine Kd.C_drew ?_)))
      (case side2 => exact (Kd.R_reads' HO_118000.out).2.1)
      (case side3 => repeat (first | exact (Kd.R_reads' HO130.out).2.2 | (with_reducible refine Kd.C_alloc ?_ _) | (with_reducible refine Kd.C_drewN ?_ _) | (with_reducible refine Kd.C_drew ?_)))
      (case side4 => exact (Kd.R_reads' HO130.out).2.1)
      rintro e w248 ⟨rfl, hb⟩
      refine ⟨_, rfl, ?_⟩
      have n0_ := Aside0.mk (Kd.R_below (by (with_reducible repeat first | apply qc32_4 | apply qc32_5 | apply qc32_6); exact HO_5.out) hb)
      have n1_ := Aside0.mk (Kd.R_below (by (with_reducible repeat first | apply qc32_4 | apply qc32_5 | apply qc32_6); exact HO_9.out) hb)
      have n2_ := Aside0.mk (Kd.R_below (by (with_reducible repeat first | apply qc32_4 | apply qc32_5 | apply qc32_6); exact HO_114000.out) hb)
      have n3_ := Aside0.mk (Kd.R_below (by (with_reducible repeat first | apply qc32_4 | apply qc32_5 | apply qc32_6); exact HO_118000.out) hb)
      have n4_ := Aside0.mk (Kd.R_below (by (with_reducible repeat first | apply qc32_4 | apply qc32_5 | apply qc32_6); exact HO_126000.out) hb)
      have n5_ := Aside0.mk (Kd.R_below (by (with_reducible repeat first | apply qc32_4 | apply qc32_5 | apply qc32_6); exact HO130.out) hb)
      have n6_ := Aside0.mk (blk_below (g := gb101) (o := .cells #[.slice A0_0 l0_0.length c0_0] 56 (0, 0)) (by (with_reducible repeat first | apply qc32_7 | apply qc32_8 | apply qc32_9); exact BK101.out) hb)
      have n7_ := Aside0.mk (blk_below (g := gb113) (o := .cells #[.slice Ao20 t106.length co20] 34 (0, 0)) (by (with_reducible repeat first | apply qc32_7 | apply qc32_8 | apply qc32_9); exact BK113.out) hb)
      have n8_ := Aside0.mk (blk_below (g := gb117) (o := .cells #[.slice Ao26 t114.length co26] 34 (0, 0)) (by (with_reducible repeat first | apply qc32_7 | apply qc32_8 | apply qc32_9); exact BK117.out) hb)
      have n9_ := Aside0.mk (blk_below (g := gb125) (o := .cells #[.slice Ao32 t118.length co32] 34 (0, 0)) (by (with_reducible repeat first | apply qc32_7 | apply qc32_8 | apply qc32_9); exact BK125.out) hb)
      have n10_ := Aside0.mk (below_step (by repeat (first | (with_reducible first | exact HB.out | apply below_alloc | apply pw_below_drewN | apply below_drew1 | refine below_set ?_ GE101.out | refine below_set ?_ GE113.out | refine below_set ?_ GE117.out | refine below_set ?_ GE125.out) | exact HB.out)) hb)
      clear HO_5
      clear HO_9
      clear HO_114000
      clear HO_118000
      clear HO_126000
      clear HO130
      clear BK101
      clear BK113
      clear BK117
      clear BK125
      clear HB
      have HO_5 := n0_
      have HO_9 := n1_
      have HO_114000 := n2_
      have HO_118000 := n3_
      have HO_126000 := n4_
      have HO130 := n5_
      have BK101 := n6_
      have BK113 := n7_
      have BK117 := n8_
      have BK125 := n9_
      have HB := n10_
      clear n0_ n1_ n2_ n3_ n4_ n5_ n6_ n7_ n8_ n9_ n10_
      (try clear hb)
      (try clear hb2)
      (try clear hk)
      (try clear hi)
      refine hK.out _ _ ⟨(blk_cell BK117.out 0).trans rfl, (blk_cell BK101.out 0).trans rfl⟩ (fun hHeld => ?_)
      clear hK K
      refine norm_ (a' := ?_) ?_ ?_
      rotate_left
      ·
       show Act.put _ (some 55) _ = _
       simp only [Act.put, qc32_1, qc32_2, qc32_3, i64_w, i32_w]
       rfl
      refine pure_ (i := 4) (N := some 56) (v := ?_) (a' := ?_) #[true,true,true,true,true] rfl rfl (by kernel_rfl) (fun _ _ _ h => h) (Or.inl ⟨by rfl, ?_⟩) ?_ ?_
      rotate_left; (· intro w'; go_simp; with_reducible rfl); rotate_left; (· simp only [Act.put, qc32_1, qc32_2, qc32_3, i64_w, i32_w]; rfl)
      refine done_ (by kernel_rfl) ?_
      try go_wp2
      go_ret
      exact ⟨by first | rfl | (simp [errW_none, errW_some] <;> rfl) | (simp [*, errW_none, errW_some] <;> rfl), by repeat (first | (with_reducible first | exact HB.out | apply below_alloc | apply pw_below_drewN | apply below_drew1 | refine below_set ?_ GE101.out | refine below_set ?_ GE113.out | refine below_set ?_ GE117.out | refine below_set ?_ GE125.out) | exact HB.out)⟩
end Go.Proofs.Ytbpgfjoplbkgmaa.P
end
