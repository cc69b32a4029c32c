/- The program's ShortestRound returns what the reference's returns, for all arguments; no condition beside. -/
import Derived.Test.YthafpimegaomlaaCFnExactShortestRound5
import Derived.Test.YthafpimegaomlaaRows
section
namespace Go.Proofs.Ythafpimegaomlaa.P
open Go.RowKit Go.Proofs.YthafpimegaomlaaW.PrintWords Go.Proofs.YthafpimegaomlaaW.PrintLast Go.Proofs.YthafpimegaomlaaW.PrintMore
attribute [local go_sem] max2_int min2_int max_two min_two max_three min_three max_four min_four   -- for this text's walks alone
set_option linter.unusedVariables false
set_option linter.unusedSimpArgs false
set_option maxHeartbeats 8000000 in
set_option maxRecDepth 100000 in
theorem laws_FnExactShortestRound.calls (k : Nat) (a0_0 : Int) (a0_1 : Int) (r : Bool) (w : World) (h : laws_FnExactShortestRound.f k a0_0 a0_1 = some r) :
    Calls Try.prog 3 #[.agg #[.int .i64 a0_0, .int .i64 a0_1]] w fun e w' => e = .returned (.bool r) ∧ Below w.heap.size w w' := by
  have hu23 := Try.underlying23
  have HB := Aside0.mk (Below.refl w.heap.size w)
  have H : ((laws_toGround.f a0_0 a0_1).bind fun bt102 => ((spec_ShortestRound.f k bt102.1 bt102.2).bind fun bt104 => ((laws_toGround.f a0_0 a0_1).bind fun bt106 => ((impl_ShortestRound.f k bt106.1 bt106.2).bind fun bt108 => (if bt108.1 = bt104.1 then (if bt108.2 = bt104.2 then (some true) else (some false)) else (some false)))))) = some r := h
  clear h
  replace H := Option.bind_eq_some_iff.mp H
  obtain ⟨⟨t102, t103⟩, A20, H⟩ := H
  replace H : ((spec_ShortestRound.f k t102 t103).bind fun bt104 => ((laws_toGround.f a0_0 a0_1).bind fun bt106 => ((impl_ShortestRound.f k bt106.1 bt106.2).bind fun bt108 => (if bt108.1 = bt104.1 then (if bt108.2 = bt104.2 then (some true) else (some false)) else (some false))))) = some r := H
  have A2 := Aside0.mk A20
  clear A20
  replace H := Option.bind_eq_some_iff.mp H
  obtain ⟨⟨t104, t105⟩, A30, H⟩ := H
  replace H : ((laws_toGround.f a0_0 a0_1).bind fun bt106 => ((impl_ShortestRound.f k bt106.1 bt106.2).bind fun bt108 => (if bt108.1 = t104 then (if bt108.2 = t105 then (some true) else (some false)) else (some false)))) = some r := H
  have A3 := Aside0.mk A30
  clear A30
  replace H := Option.bind_eq_some_iff.mp H
  obtain ⟨⟨t106, t107⟩, A40, H⟩ := H
  replace H : ((impl_ShortestRound.f k t106 t107).bind fun bt108 => (if bt108.1 = t104 then (if bt108.2 = t105 then (some true) else (some false)) else (some false))) = some r := H
  have A4 := Aside0.mk A40
  clear A40
  replace H := Option.bind_eq_some_iff.mp H
  obtain ⟨⟨t108, t109⟩, A50, H⟩ := H
  replace H : (if t108 = t104 then (if t109 = t105 then (some true) else (some false)) else (some false)) = some r := H
  have A5 := Aside0.mk A50
  clear A50
  by_cases c6 : t108 = t104
  · rw [if_pos c6] at H
    have c6b0 : (t108 == t104) = true := beq_iff_eq.mpr c6
    have c6b1 : (t108 != t104) = false := bne_eq_false_iff_eq.mpr c6
    clear c6
    by_cases c7 : t109 = t105
    · rw [if_pos c7] at H
      have c7b0 : (t109 == t105) = true := beq_iff_eq.mpr c7
      have c7b1 : (t109 != t105) = false := bne_eq_false_iff_eq.mpr c7
      clear c7
      obtain rfl := Option.some.inj H
      go_enter Try.func3, Try.ntmps3
      go_wp2_with (first | ((with_reducible refine gate_dst (N := 1) rfl ?_); refine box_event ?hg (N := 1) ?hd (cs := #[.int .i64 a0_0, .int .i64 a0_1]) (t := 23) ?hr ?_; (case hd => rfl); (case hg => rfl); (case hr => first | (go_simp; done) | (go_simp; rfl)); intro gb101 hg w8 hbox hb; have n0_ := Aside0.mk (below_step (by repeat (first | (with_reducible first | exact HB.out | apply below_alloc | apply pw_below_drewN | apply below_drew1) | exact HB.out)) hb); have n1_ := Aside0.mk (hbox); have n2_ := Aside0.mk ((by rw [hg]; exact (below_size (by repeat (first | (with_reducible first | exact HB.out | apply below_alloc | apply pw_below_drewN | apply below_drew1) | exact HB.out))) : w.heap.size ≤ gb101)); have n3_ := Aside0.mk ((by rw [hg]; exact (below_size (by repeat (first | (with_reducible first | exact HB.out | apply below_alloc | apply pw_below_drewN | apply below_drew1) | exact HB.out))) : w.heap.size ≤ gb101)); clear HB; have HB := n0_; have BK101 := n1_; have GW101 := n2_; have GE101 := n3_; clear n0_ n1_ n2_ n3_; clear hb hbox hg; have hcz9_0 : w8.cell? ⟨gb101, 0, none⟩ = some (.int .i64 a0_0) := (blk_cell BK101.out 0).trans rfl; have hcz9_1 : w8.cell? ⟨gb101, 1, none⟩ = some (.int .i64 a0_1) := (blk_cell BK101.out 1).trans rfl; have hfz9_0 := blk_frozen BK101.out 0; have hfz9_1 := blk_frozen BK101.out 1) | ((with_reducible refine gate_callee (f := 5) rfl ?_); refine goesL_ (some 9) rfl rfl Try.func5 (by kernel_rfl) rfl #[.agg #[.int .i64 a0_0, .int .i64 a0_1]] rfl (by (try simp only [List.map_toArray, List.map_cons, List.map_nil]); first | done | rfl | (simp only [List.length_drop, List.length_take]; rfl)) ?_; (with_reducible refine (laws_toGround.calls a0_0 a0_1 t102 t103 _ A2.out).mono ?_); rintro e w10 ⟨rfl, hb⟩; refine ⟨_, rfl, ?_⟩; have n0_ := Aside0.mk (blk_below (g := gb101) (o := .cells #[.int .i64 a0_0, .int .i64 a0_1] 23 (0, 0)) (by (with_reducible repeat (first | refine blk_drewN ?_ _ | refine blk_drew ?_ | refine blk_alloc ?_ _)); exact BK101.out) hb); have n1_ := Aside0.mk (below_step (by repeat (first | (with_reducible first | exact HB.out | apply below_alloc | apply pw_below_drewN | apply below_drew1 | refine below_set ?_ GE101.out) | exact HB.out)) hb); clear BK101; clear HB; have BK101 := n0_; have HB := n1_; clear n0_ n1_; (try clear hb); (try clear hb2); (try clear hk); (try clear hi)) | ((with_reducible refine gate_callee (f := 4) rfl ?_); refine goesL_ (some 10) rfl rfl Try.func4 (by kernel_rfl) rfl #[.agg #[.int .i64 t102, .int .i64 t103]] rfl (by (try simp only [List.map_toArray, List.map_cons, List.map_nil]); first | done | rfl | (simp only [List.length_drop, List.length_take]; rfl)) ?_; (with_reducible refine (spec_ShortestRound.calls k t102 t103 t104 t105 _ A3.out).mono ?_); rintro e w11 ⟨rfl, hb⟩; refine ⟨_, rfl, ?_⟩; have n0_ := Aside0.mk (blk_below (g := gb101) (o := .cells #[.int .i64 a0_0, .int .i64 a0_1] 23 (0, 0)) (by (with_reducible repeat (first | refine blk_drewN ?_ _ | refine blk_drew ?_ | refine blk_alloc ?_ _)); exact BK101.out) hb); have n1_ := Aside0.mk (below_step (by repeat (first | (with_reducible first | exact HB.out | apply below_alloc | apply pw_below_drewN | apply below_drew1 | refine below_set ?_ GE101.out) | exact HB.out)) hb); clear BK101; clear HB; have BK101 := n0_; have HB := n1_; clear n0_ n1_; (try clear hb); (try clear hb2); (try clear hk); (try clear hi); have hcz12_0 : w11.cell? ⟨gb101, 0, none⟩ = some (.int .i64 a0_0) := (blk_cell BK101.out 0).trans rfl; have hcz12_1 : w11.cell? ⟨gb101, 1, none⟩ = some (.int .i64 a0_1) := (blk_cell BK101.out 1).trans rfl; have hfz12_0 := blk_frozen BK101.out 0; have hfz12_1 := blk_frozen BK101.out 1) | ((with_reducible refine gate_callee (f := 5) rfl ?_); refine goesL_ (some 15) rfl rfl Try.func5 (by kernel_rfl) rfl #[.agg #[.int .i64 a0_0, .int .i64 a0_1]] rfl (by (try simp only [List.map_toArray, List.map_cons, List.map_nil]); first | done | rfl | (simp only [List.length_drop, List.length_take]; rfl)) ?_; (with_reducible refine (laws_toGround.calls a0_0 a0_1 t106 t107 _ A4.out).mono ?_); rintro e w13 ⟨rfl, hb⟩; refine ⟨_, rfl, ?_⟩; have n0_ := Aside0.mk (blk_below (g := gb101) (o := .cells #[.int .i64 a0_0, .int .i64 a0_1] 23 (0, 0)) (by (with_reducible repeat (first | refine blk_drewN ?_ _ | refine blk_drew ?_ | refine blk_alloc ?_ _)); exact BK101.out) hb); have n1_ := Aside0.mk (below_step (by repeat (first | (with_reducible first | exact HB.out | apply below_alloc | apply pw_below_drewN | apply below_drew1 | refine below_set ?_ GE101.out) | exact HB.out)) hb); clear BK101; clear HB; have BK101 := n0_; have HB := n1_; clear n0_ n1_; (try clear hb); (try clear hb2); (try clear hk); (try clear hi)) | ((with_reducible refine gate_callee (f := 6) rfl ?_); refine goesL_ (some 16) rfl rfl Try.func6 (by kernel_rfl) rfl #[.agg #[.int .i64 t106, .int .i64 t107]] rfl (by (try simp only [List.map_toArray, List.map_cons, List.map_nil]); first | done | rfl | (simp only [List.length_drop, List.length_take]; rfl)) ?_; (with_reducible refine (impl_ShortestRound.calls k t106 t107 t108 t109 _ A5.out).mono ?_); rintro e w14 ⟨rfl, hb⟩; refine ⟨_, rfl, ?_⟩; have n0_ := Aside0.mk (blk_below (g := gb101) (o := .cells #[.int .i64 a0_0, .int .i64 a0_1] 23 (0, 0)) (by (with_reducible repeat (first | refine blk_drewN ?_ _ | refine blk_drew ?_ | refine blk_alloc ?_ _)); exact BK101.out) hb); have n1_ := Aside0.mk (below_step (by repeat (first | (with_reducible first | exact HB.out | apply below_alloc | apply pw_below_drewN | apply below_drew1 | refine below_set ?_ GE101.out) | exact HB.out)) hb); clear BK101; clear HB; have BK101 := n0_; have HB := n1_; clear n0_ n1_; (try clear hb); (try clear hb2); (try clear hk); (try clear hi)))
      go_ret
      exact ⟨by first | rfl | (simp [errW_none, errW_some] <;> rfl) | (simp [*, errW_none, errW_some] <;> rfl), by repeat (first | (with_reducible first | exact HB.out | apply below_alloc | apply pw_below_drewN | apply below_drew1 | refine below_set ?_ GE101.out) | exact HB.out)⟩
    · rw [if_neg c7] at H
      have c7b0 : (t109 == t105) = false := beq_eq_false_iff_ne.mpr c7
      have c7b1 : (t109 != t105) = true := bne_iff_ne.mpr c7
      obtain rfl := Option.some.inj H
      go_enter Try.func3, Try.ntmps3
      go_wp2_with (first | ((with_reducible refine gate_dst (N := 1) rfl ?_); refine box_event ?hg (N := 1) ?hd (cs := #[.int .i64 a0_0, .int .i64 a0_1]) (t := 23) ?hr ?_; (case hd => rfl); (case hg => rfl); (case hr => first | (go_simp; done) | (go_simp; rfl)); intro gb101 hg w15 hbox hb; have n0_ := Aside0.mk (below_step (by repeat (first | (with_reducible first | exact HB.out | apply below_alloc | apply pw_below_drewN | apply below_drew1) | exact HB.out)) hb); have n1_ := Aside0.mk (hbox); have n2_ := Aside0.mk ((by rw [hg]; exact (below_size (by repeat (first | (with_reducible first | exact HB.out | apply below_alloc | apply pw_below_drewN | apply below_drew1) | exact HB.out))) : w.heap.size ≤ gb101)); have n3_ := Aside0.mk ((by rw [hg]; exact (below_size (by repeat (first | (with_reducible first | exact HB.out | apply below_alloc | apply pw_below_drewN | apply below_drew1) | exact HB.out))) : w.heap.size ≤ gb101)); clear HB; have HB := n0_; have BK101 := n1_; have GW101 := n2_; have GE101 := n3_; clear n0_ n1_ n2_ n3_; clear hb hbox hg; have hcz16_0 : w15.cell? ⟨gb101, 0, none⟩ = some (.int .i64 a0_0) := (blk_cell BK101.out 0).trans rfl; have hcz16_1 : w15.cell? ⟨gb101, 1, none⟩ = some (.int .i64 a0_1) := (blk_cell BK101.out 1).trans rfl; have hfz16_0 := blk_frozen BK101.out 0; have hfz16_1 := blk_frozen BK101.out 1) | ((with_reducible refine gate_callee (f := 5) rfl ?_); refine goesL_ (some 9) rfl rfl Try.func5 (by kernel_rfl) rfl #[.agg #[.int .i64 a0_0, .int .i64 a0_1]] rfl (by (try simp only [List.map_toArray, List.map_cons, List.map_nil]); first | done | rfl | (simp only [List.length_drop, List.length_take]; rfl)) ?_; (with_reducible refine (laws_toGround.calls a0_0 a0_1 t102 t103 _ A2.out).mono ?_); rintro e w17 ⟨rfl, hb⟩; refine ⟨_, rfl, ?_⟩; have n0_ := Aside0.mk (blk_below (g := gb101) (o := .cells #[.int .i64 a0_0, .int .i64 a0_1] 23 (0, 0)) (by (with_reducible repeat (first | refine blk_drewN ?_ _ | refine blk_drew ?_ | refine blk_alloc ?_ _)); exact BK101.out) hb); have n1_ := Aside0.mk (below_step (by repeat (first | (with_reducible first | exact HB.out | apply below_alloc | apply pw_below_drewN | apply below_drew1 | refine below_set ?_ GE101.out) | exact HB.out)) hb); clear BK101; clear HB; have BK101 := n0_; have HB := n1_; clear n0_ n1_; (try clear hb); (try clear hb2); (try clear hk); (try clear hi)) | ((with_reducible refine gate_callee (f := 4) rfl ?_); refine goesL_ (some 10) rfl rfl Try.func4 (by kernel_rfl) rfl #[.agg #[.int .i64 t102, .int .i64 t103]] rfl (by (try simp only [List.map_toArray, List.map_cons, List.map_nil]); first | done | rfl | (simp only [List.length_drop, List.length_take]; rfl)) ?_; (with_reducible refine (spec_ShortestRound.calls k t102 t103 t104 t105 _ A3.out).mono ?_); rintro e w18 ⟨rfl, hb⟩; refine ⟨_, rfl, ?_⟩; have n0_ := Aside0.mk (blk_below (g := gb101) (o := .cells #[.int .i64 a0_0, .int .i64 a0_1] 23 (0, 0)) (by (with_reducible repeat (first | refine blk_drewN ?_ _ | refine blk_drew ?_ | refine blk_alloc ?_ _)); exact BK101.out) hb); have n1_ := Aside0.mk (below_step (by repeat (first | (with_reducible first | exact HB.out | apply below_alloc | apply pw_below_drewN | apply below_drew1 | refine below_set ?_ GE101.out) | exact HB.out)) hb); clear BK101; clear HB; have BK101 := n0_; have HB := n1_; clear n0_ n1_; (try clear hb); (try clear hb2); (try clear hk); (try clear hi); have hcz19_0 : w18.cell? ⟨gb101, 0, none⟩ = some (.int .i64 a0_0) := (blk_cell BK101.out 0).trans rfl; have hcz19_1 : w18.cell? ⟨gb101, 1, none⟩ = some (.int .i64 a0_1) := (blk_cell BK101.out 1).trans rfl; have hfz19_0 := blk_frozen BK101.out 0; have hfz19_1 := blk_frozen BK101.out 1) | ((with_reducible refine gate_callee (f := 5) rfl ?_); refine goesL_ (some 15) rfl rfl Try.func5 (by kernel_rfl) rfl #[.agg #[.int .i64 a0_0, .int .i64 a0_1]] rfl (by (try simp only [List.map_toArray, List.map_cons, List.map_nil]); first | done | rfl | (simp only [List.length_drop, List.length_take]; rfl)) ?_; (with_reducible refine (laws_toGround.calls a0_0 a0_1 t106 t107 _ A4.out).mono ?_); rintro e w20 ⟨rfl, hb⟩; refine ⟨_, rfl, ?_⟩; have n0_ := Aside0.mk (blk_below (g := gb101) (o := .cells #[.int .i64 a0_0, .int .i64 a0_1] 23 (0, 0)) (by (with_reducible repeat (first | refine blk_drewN ?_ _ | refine blk_drew ?_ | refine blk_alloc ?_ _)); exact BK101.out) hb); have n1_ := Aside0.mk (below_step (by repeat (first | (with_reducible first | exact HB.out | apply below_alloc | apply pw_below_drewN | apply below_drew1 | refine below_set ?_ GE101.out) | exact HB.out)) hb); clear BK101; clear HB; have BK101 := n0_; have HB := n1_; clear n0_ n1_; (try clear hb); (try clear hb2); (try clear hk); (try clear hi)) | ((with_reducible refine gate_callee (f := 6) rfl ?_); refine goesL_ (some 16) rfl rfl Try.func6 (by kernel_rfl) rfl #[.agg #[.int .i64 t106, .int .i64 t107]] rfl (by (try simp only [List.map_toArray, List.map_cons, List.map_nil]); first | done | rfl | (simp only [List.length_drop, List.length_take]; rfl)) ?_; (with_reducible refine (impl_ShortestRound.calls k t106 t107 t108 t109 _ A5.out).mono ?_); rintro e w21 ⟨rfl, hb⟩; refine ⟨_, rfl, ?_⟩; have n0_ := Aside0.mk (blk_below (g := gb101) (o := .cells #[.int .i64 a0_0, .int .i64 a0_1] 23 (0, 0)) (by (with_reducible repeat (first | refine blk_drewN ?_ _ | refine blk_drew ?_ | refine blk_alloc ?_ _)); exact BK101.out) hb); have n1_ := Aside0.mk (below_step (by repeat (first | (with_reducible first | exact HB.out | apply below_alloc | apply pw_below_drewN | apply below_drew1 | refine below_set ?_ GE101.out) | exact HB.out)) hb); clear BK101; clear HB; have BK101 := n0_; have HB := n1_; clear n0_ n1_; (try clear hb); (try clear hb2); (try clear hk); (try clear hi)))
      go_ret
      exact ⟨by first | rfl | (simp [errW_none, errW_some] <;> rfl) | (simp [*, errW_none, errW_some] <;> rfl), by repeat (first | (with_reducible first | exact HB.out | apply below_alloc | apply pw_below_drewN | apply below_drew1 | refine below_set ?_ GE101.out) | exact HB.out)⟩
  · rw [if_neg c6] at H
    have c6b0 : (t108 == t104) = false := beq_eq_false_iff_ne.mpr c6
    have c6b1 : (t108 != t104) = true := bne_iff_ne.mpr c6
    obtain rfl := Option.some.inj H
    go_enter Try.func3, Try.ntmps3
    go_wp2_with (first | ((with_reducible refine gate_dst (N := 1) rfl ?_); refine box_event ?hg (N := 1) ?hd (cs := #[.int .i64 a0_0, .int .i64 a0_1]) (t := 23) ?hr ?_; (case hd => rfl); (case hg => rfl); (case hr => first | (go_simp; done) | (go_simp; rfl)); intro gb101 hg w22 hbox hb; have n0_ := Aside0.mk (below_step (by repeat (first | (with_reducible first | exact HB.out | apply below_alloc | apply pw_below_drewN | apply below_drew1) | exact HB.out)) hb); have n1_ := Aside0.mk (hbox); have n2_ := Aside0.mk ((by rw [hg]; exact (below_size (by repeat (first | (with_reducible first | exact HB.out | apply below_alloc | apply pw_below_drewN | apply below_drew1) | exact HB.out))) : w.heap.size ≤ gb101)); have n3_ := Aside0.mk ((by rw [hg]; exact (below_size (by repeat (first | (with_reducible first | exact HB.out | apply below_alloc | apply pw_below_drewN | apply below_drew1) | exact HB.out))) : w.heap.size ≤ gb101)); clear HB; have HB := n0_; have BK101 := n1_; have GW101 := n2_; have GE101 := n3_; clear n0_ n1_ n2_ n3_; clear hb hbox hg; have hcz23_0 : w22.cell? ⟨gb101, 0, none⟩ = some (.int .i64 a0_0) := (blk_cell BK101.out 0).trans rfl; have hcz23_1 : w22.cell? ⟨gb101, 1, none⟩ = some (.int .i64 a0_1) := (blk_cell BK101.out 1).trans rfl; have hfz23_0 := blk_frozen BK101.out 0; have hfz23_1 := blk_frozen BK101.out 1) | ((with_reducible refine gate_callee (f := 5) rfl ?_); refine goesL_ (some 9) rfl rfl Try.func5 (by kernel_rfl) rfl #[.agg #[.int .i64 a0_0, .int .i64 a0_1]] rfl (by (try simp only [List.map_toArray, List.map_cons, List.map_nil]); first | done | rfl | (simp only [List.length_drop, List.length_take]; rfl)) ?_; (with_reducible refine (laws_toGround.calls a0_0 a0_1 t102 t103 _ A2.out).mono ?_); rintro e w24 ⟨rfl, hb⟩; refine ⟨_, rfl, ?_⟩; have n0_ := Aside0.mk (blk_below (g := gb101) (o := .cells #[.int .i64 a0_0, .int .i64 a0_1] 23 (0, 0)) (by (with_reducible repeat (first | refine blk_drewN ?_ _ | refine blk_drew ?_ | refine blk_alloc ?_ _)); exact BK101.out) hb); have n1_ := Aside0.mk (below_step (by repeat (first | (with_reducible first | exact HB.out | apply below_alloc | apply pw_below_drewN | apply below_drew1 | refine below_set ?_ GE101.out) | exact HB.out)) hb); clear BK101; clear HB; have BK101 := n0_; have HB := n1_; clear n0_ n1_; (try clear hb); (try clear hb2); (try clear hk); (try clear hi)) | ((with_reducible refine gate_callee (f := 4) rfl ?_); refine goesL_ (some 10) rfl rfl Try.func4 (by kernel_rfl) rfl #[.agg #[.int .i64 t102, .int .i64 t103]] rfl (by (try simp only [List.map_toArray, List.map_cons, List.map_nil]); first | done | rfl | (simp only [List.length_drop, List.length_take]; rfl)) ?_; (with_reducible refine (spec_ShortestRound.calls k t102 t103 t104 t105 _ A3.out).mono ?_); rintro e w25 ⟨rfl, hb⟩; refine ⟨_, rfl, ?_⟩; have n0_ := Aside0.mk (blk_below (g := gb101) (o := .cells #[.int .i64 a0_0, .int .i64 a0_1] 23 (0, 0)) (by (with_reducible repeat (first | refine blk_drewN ?_ _ | refine blk_drew ?_ | refine blk_alloc ?_ _)); exact BK101.out) hb); have n1_ := Aside0.mk (below_step (by repeat (first | (with_reducible first | exact HB.out | apply below_alloc | apply pw_below_drewN | apply below_drew1 | refine below_set ?_ GE101.out) | exact HB.out)) hb); clear BK101; clear HB; have BK101 := n0_; have HB := n1_; clear n0_ n1_; (try clear hb); (try clear hb2); (try clear hk); (try clear hi); have hcz26_0 : w25.cell? ⟨gb101, 0, none⟩ = some (.int .i64 a0_0) := (blk_cell BK101.out 0).trans rfl; have hcz26_1 : w25.cell? ⟨gb101, 1, none⟩ = some (.int .i64 a0_1) := (blk_cell BK101.out 1).trans rfl; have hfz26_0 := blk_frozen BK101.out 0; have hfz26_1 := blk_frozen BK101.out 1) | ((with_reducible refine gate_callee (f := 5) rfl ?_); refine goesL_ (some 15) rfl rfl Try.func5 (by kernel_rfl) rfl #[.agg #[.int .i64 a0_0, .int .i64 a0_1]] rfl (by (try simp only [List.map_toArray, List.map_cons, List.map_nil]); first | done | rfl | (simp only [List.length_drop, List.length_take]; rfl)) ?_; (with_reducible refine (laws_toGround.calls a0_0 a0_1 t106 t107 _ A4.out).mono ?_); rintro e w27 ⟨rfl, hb⟩; refine ⟨_, rfl, ?_⟩; have n0_ := Aside0.mk (blk_below (g := gb101) (o := .cells #[.int .i64 a0_0, .int .i64 a0_1] 23 (0, 0)) (by (with_reducible repeat (first | refine blk_drewN ?_ _ | refine blk_drew ?_ | refine blk_alloc ?_ _)); exact BK101.out) hb); have n1_ := Aside0.mk (below_step (by repeat (first | (with_reducible first | exact HB.out | apply below_alloc | apply pw_below_drewN | apply below_drew1 | refine below_set ?_ GE101.out) | exact HB.out)) hb); clear BK101; clear HB; have BK101 := n0_; have HB := n1_; clear n0_ n1_; (try clear hb); (try clear hb2); (try clear hk); (try clear hi)) | ((with_reducible refine gate_callee (f := 6) rfl ?_); refine goesL_ (some 16) rfl rfl Try.func6 (by kernel_rfl) rfl #[.agg #[.int .i64 t106, .int .i64 t107]] rfl (by (try simp only [List.map_toArray, List.map_cons, List.map_nil]); first | done | rfl | (simp only [List.length_drop, List.length_take]; rfl)) ?_; (with_reducible refine (impl_ShortestRound.calls k t106 t107 t108 t109 _ A5.out).mono ?_); rintro e w28 ⟨rfl, hb⟩; refine ⟨_, rfl, ?_⟩; have n0_ := Aside0.mk (blk_below (g := gb101) (o := .cells #[.int .i64 a0_0, .int .i64 a0_1] 23 (0, 0)) (by (with_reducible repeat (first | refine blk_drewN ?_ _ | refine blk_drew ?_ | refine blk_alloc ?_ _)); exact BK101.out) hb); have n1_ := Aside0.mk (below_step (by repeat (first | (with_reducible first | exact HB.out | apply below_alloc | apply pw_below_drewN | apply below_drew1 | refine below_set ?_ GE101.out) | exact HB.out)) hb); clear BK101; clear HB; have BK101 := n0_; have HB := n1_; clear n0_ n1_; (try clear hb); (try clear hb2); (try clear hk); (try clear hi)))
    go_ret
    exact ⟨by first | rfl | (simp [errW_none, errW_some] <;> rfl) | (simp [*, errW_none, errW_some] <;> rfl), by repeat (first | (with_reducible first | exact HB.out | apply below_alloc | apply pw_below_drewN | apply below_drew1 | refine below_set ?_ GE101.out) | exact HB.out)⟩
/-- THE ONE PURE STATEMENT of laws_FnExactShortestRound. -/
def laws_FnExactShortestRound.Pure : Prop := ∀ (a0_0 : Int) (a0_1 : Int), okInt .i64 a0_0 → okInt .i64 a0_1 → ∃ k, laws_FnExactShortestRound.f k a0_0 a0_1 = some true
theorem laws_FnExactShortestRound.walk (P : laws_FnExactShortestRound.Pure) (a0_0 : Int) (a0_1 : Int) (w : World)  (w0_0 : okInt .i64 a0_0) (w0_1 : okInt .i64 a0_1) :
    Calls Try.prog 3 #[.agg #[.int .i64 a0_0, .int .i64 a0_1]] w fun e w' => e = .returned (.bool true) ∧ Below w.heap.size w w' := by
  obtain ⟨k, h⟩ := P a0_0 a0_1 w0_0 w0_1
  refine (laws_FnExactShortestRound.calls k a0_0 a0_1 true w h).mono ?_
  rintro e w' ⟨rfl, hd⟩
  exact ⟨rfl, hd⟩
end Go.Proofs.Ythafpimegaomlaa.P
end
section
namespace Go.Proofs.Ythafpimegaomlaa.Pure
open Go.RowKit Go.Proofs.Ythafpimegaomlaa.P Go.Proofs.YthafpimegaomlaaW.PrintWords Go.Proofs.YthafpimegaomlaaW.PrintLast Go.Proofs.YthafpimegaomlaaW.PrintMore
set_option linter.unusedVariables false
set_option linter.unusedSimpArgs false
theorem ev_pos {α : Type} {c : Prop} [Decidable c] {A B : Nat → Option α} {r : α} (h : c) (e : Ev A r) : Ev (fun n => if c then A n else B n) r := Ev.congr (fun n => if_pos h) e
theorem ev_neg {α : Type} {c : Prop} [Decidable c] {A B : Nat → Option α} {r : α} (h : ¬ c) (e : Ev B r) : Ev (fun n => if c then A n else B n) r := Ev.congr (fun n => if_neg h) e
theorem ev_now {α : Type} (r : α) : Ev (fun _ => some r) r := Ev.now r
theorem ev_is {α : Type} {g : Option α} {r : α} (h : g = some r) : Ev (fun _ => g) r := by subst h; exact Ev.now r
theorem ev_bind {α β : Type} {g : Nat → Option α} {f : Nat → α → Option β} {a : α} {r : β} (h : Ev g a) (k : Ev (fun n => f n a) r) : Ev (fun n => (g n).bind (f n)) r := Ev.bind h k
theorem ev_fix {α β : Type} {g : Option α} {f : Nat → α → Option β} {a : α} {r : β} (h : g = some a) (k : Ev (fun n => f n a) r) : Ev (fun n => g.bind (f n)) r := by subst h; exact k
theorem ev_rounds {α : Type} {g : Nat → Option α} {r : α} (h : Ev g r) : ∃ k, g k = some r := h.rounds
theorem wrap_id {x : Int} (h1 : -9223372036854775808 ≤ x) (h2 : x ≤ 9223372036854775807) : wrap64 x = x := by unfold wrap64; omega
theorem wrap_succ {n : Nat} (h : n + 1 ≤ 9223372036854775807) : wrap64 ((n : Int) + 1) = ((n + 1 : Nat) : Int) := by rw [wrap_id (by omega) (by omega)]; omega
theorem rd_nat {l : List Int} {n : Nat} (h : n < l.length) : rd l (n : Int) = l[n] := by simp [rd, h]
end Go.Proofs.Ythafpimegaomlaa.Pure
end
section
namespace Go.Proofs.Ythafpimegaomlaa.Pure
open Go.RowKit Go.Proofs.Ythafpimegaomlaa.P Go.Proofs.YthafpimegaomlaaW.PrintWords Go.Proofs.YthafpimegaomlaaW.PrintLast Go.Proofs.YthafpimegaomlaaW.PrintMore
set_option linter.unusedVariables false
set_option linter.unusedSimpArgs false
/-- the digit of the road between two places -/
def roadOf (i j : Int) : Int := 2 ^ ((max i j) * ((max i j) - 1) / 2 + min i j).toNat
theorem six {i : Int} (h : 0 ≤ i ∧ i ≤ 5) : i = 0 ∨ i = 1 ∨ i = 2 ∨ i = 3 ∨ i = 4 ∨ i = 5 := by omega
theorem impl_road_f {i j : Int} (hi : 0 ≤ i ∧ i ≤ 5) (hj : 0 ≤ j ∧ j ≤ 5) (h : i ≠ j) : impl_road.f i j = some (roadOf i j) := by
  rcases six hi with rfl | rfl | rfl | rfl | rfl | rfl <;> rcases six hj with rfl | rfl | rfl | rfl | rfl | rfl <;> first | exact absurd rfl h | decide +kernel
theorem l09Road_f {i j : Int} (hi : 0 ≤ i ∧ i ≤ 5) (hj : 0 ≤ j ∧ j ≤ 5) (h : i ≠ j) : spec_l09Road.f i j = some (roadOf i j) := by
  rcases six hi with rfl | rfl | rfl | rfl | rfl | rfl <;> rcases six hj with rfl | rfl | rfl | rfl | rfl | rfl <;> first | exact absurd rfl h | decide +kernel
/-- Two places are near: the same, or joined. -/
def nearB (b i j : Int) : Bool := if i = j then true else Go.bits .and .i64 b (roadOf i j) != 0
theorem l09Near_f (a b : Int) {i j : Int} (hi : 0 ≤ i ∧ i ≤ 5) (hj : 0 ≤ j ∧ j ≤ 5) : spec_l09Near.f a b i j = some (nearB b i j) := by
  unfold spec_l09Near.f nearB
  by_cases h : i = j
  · rw [if_pos h, if_pos h]
  · rw [if_neg h, if_neg h, l09Road_f hi hj h, Option.bind_some]
end Go.Proofs.Ythafpimegaomlaa.Pure
end
section
namespace Go.Proofs.Ythafpimegaomlaa.Pure
open Go.RowKit Go.Proofs.Ythafpimegaomlaa.P Go.Proofs.YthafpimegaomlaaW.PrintWords Go.Proofs.YthafpimegaomlaaW.PrintLast Go.Proofs.YthafpimegaomlaaW.PrintMore
set_option linter.unusedVariables false
set_option linter.unusedSimpArgs false
theorem rd_set {l : List Int} {b i : Nat} {x : Int} (hb : b < l.length) : rd (l.set b x) (i : Nat) = if i = b then x else rd l (i : Nat) := by
  simp only [rd, Int.toNat_natCast, List.getD_eq_getElem?_getD, List.getElem?_set]
  by_cases h : b = i
  · subst h; simp [hb]
  · rw [if_neg h, if_neg (fun e => h e.symm)]
end Go.Proofs.Ythafpimegaomlaa.Pure
end
section
namespace Go.Proofs.Ythafpimegaomlaa.Pure
open Go.RowKit Go.Proofs.Ythafpimegaomlaa.P Go.Proofs.YthafpimegaomlaaW.PrintWords Go.Proofs.YthafpimegaomlaaW.PrintLast Go.Proofs.YthafpimegaomlaaW.PrintMore
set_option linter.unusedVariables false
set_option linter.unusedSimpArgs false
def neg : List Int → Nat
  | [] => 0
  | y :: l => (if y < 0 then 1 else 0) + neg l
theorem neg_set (v : Int) (hv : 0 ≤ v) : ∀ (l : List Int) (n : Nat) (h : n < l.length), l[n] < 0 → neg (l.set n v) + 1 = neg l := by
  intro l
  induction l with
  | nil => intro n h; simp at h
  | cons y l ih =>
    intro n h hn
    cases n with
    | zero =>
      simp only [List.getElem_cons_zero] at hn
      simp only [List.set_cons_zero, neg]
      rw [if_neg (by omega), if_pos hn]
      omega
    | succ n =>
      simp only [List.getElem_cons_succ] at hn
      simp only [List.set_cons_succ, neg]
      have := ih n (by simpa using h) hn
      omega
theorem neg_le (l : List Int) : neg l ≤ l.length := by
  induction l with
  | nil => simp [neg]
  | cons y l ih => simp only [neg, List.length_cons]; split <;> omega
def stepJ (b h : Int) (j : Nat) (s : List Int × List Int) : List Int × List Int := if rd s.1 (j : Int) < 0 ∧ nearB b h (j : Int) = true then (s.1.set j (rd s.1 h + 1), s.2 ++ [(j : Int)]) else s
def inJ (b h : Int) : Nat → Nat → List Int × List Int → List Int × List Int
  | 0, _, s => s
  | d + 1, j, s => inJ b h d (j + 1) (stepJ b h j s)
def bfsF (a : Nat) (b : Int) : Nat → Nat → List Int × List Int → List Int
  | 0, _, s => s.1
  | f + 1, k, s => if k < s.2.length then bfsF a b f (k + 1) (inJ b (rd s.2 (k : Int)) a 0 s) else s.1
def dist (a : Nat) (b : Int) (i : Nat) : List Int := bfsF a b (a + 1) 0 ((List.replicate a (-1)).set i 0, [(i : Int)])
structure Bfs (a : Nat) (s : List Int × List Int) : Prop where
  len : s.1.length = a
  mem : ∀ x ∈ s.2, 0 ≤ x ∧ x < (a : Int) ∧ 0 ≤ rd s.1 x
  hi : ∀ i : Nat, i < a → rd s.1 (i : Int) ≤ (s.2.length : Int)
  num : s.2.length + neg s.1 ≤ a
theorem Bfs.step {a : Nat} {b h : Int} {j : Nat} {s : List Int × List Int} (B : Bfs a s) (hj : j < a) (hh : 0 ≤ h ∧ h < (a : Int) ∧ 0 ≤ rd s.1 h) : Bfs a (stepJ b h j s) := by
  unfold stepJ
  split
  · next c =>
    have hl := B.len
    refine ⟨by rw [List.length_set]; exact hl, fun x hx => ?_, fun i hi => ?_, ?_⟩
    · rcases List.mem_append.1 hx with hx | hx
      · obtain ⟨h1, h2, h3⟩ := B.mem x hx
        obtain ⟨n, rfl⟩ : ∃ n : Nat, x = n := ⟨x.toNat, by omega⟩
        refine ⟨h1, h2, ?_⟩
        show 0 ≤ rd (s.1.set j _) (n : Int)
        rw [rd_set (by omega)]
        split <;> omega
      · rw [List.mem_singleton.1 hx]
        refine ⟨by omega, by omega, ?_⟩
        show 0 ≤ rd (s.1.set j _) (j : Int)
        rw [rd_set (by omega), if_pos rfl]
        omega
    · have h1 := B.hi i hi
      have h2 := B.hi h.toNat (by omega)
      rw [show ((h.toNat : Nat) : Int) = h by omega] at h2
      show rd (s.1.set j _) (i : Int) ≤ ((s.2 ++ [(j : Int)]).length : Int)
      rw [rd_set (by omega), List.length_append, List.length_singleton]
      split <;> omega
    · have c1 := c.1
      rw [rd_nat (by omega)] at c1
      have := neg_set (rd s.1 h + 1) (by omega) s.1 j (by omega) c1
      have := B.num
      show (s.2 ++ [(j : Int)]).length + neg (s.1.set j (rd s.1 h + 1)) ≤ a
      rw [List.length_append, List.length_singleton]
      omega
  · exact B
theorem stepJ_rd {b h : Int} {j : Nat} {s : List Int × List Int} (k : Nat) (hk : k < s.2.length) : rd (stepJ b h j s).2 (k : Int) = rd s.2 (k : Int) ∧ s.2.length ≤ (stepJ b h j s).2.length := by
  unfold stepJ
  split
  · refine ⟨?_, by simp⟩
    show rd (s.2 ++ [(j : Int)]) (k : Int) = _
    rw [rd_nat (by simp; omega), rd_nat hk, List.getElem_append_left hk]
  · exact ⟨rfl, Nat.le_refl _⟩
theorem stepJ_head {a : Nat} {b h : Int} {j : Nat} {s : List Int × List Int} (B : Bfs a s) (hj : j < a) (hh : 0 ≤ h ∧ h < (a : Int) ∧ 0 ≤ rd s.1 h) : 0 ≤ rd (stepJ b h j s).1 h := by
  unfold stepJ
  split
  · have hl := B.len
    obtain ⟨n, rfl⟩ : ∃ n : Nat, h = n := ⟨h.toNat, by omega⟩
    show 0 ≤ rd (s.1.set j _) (n : Int)
    rw [rd_set (by omega)]
    split <;> omega
  · exact hh.2.2
theorem Bfs.start {a i : Nat} (hi : i < a) : Bfs a ((List.replicate a (-1)).set i 0, [(i : Int)]) := by
  refine ⟨by simp, fun x hx => ?_, fun n hn => ?_, ?_⟩
  · rw [List.mem_singleton.1 hx]
    refine ⟨by omega, by omega, ?_⟩
    show 0 ≤ rd ((List.replicate a (-1)).set i 0) (i : Int)
    rw [rd_set (by simpa using hi), if_pos rfl]
    omega
  · show rd ((List.replicate a (-1)).set i 0) (n : Int) ≤ 1
    rw [rd_set (by simpa using hi)]
    split
    · omega
    · rw [rd_nat (by simpa using hn)]
      simp
  · show 1 + neg ((List.replicate a (-1)).set i 0) ≤ a
    have h1 := neg_set 0 (by omega) (List.replicate a (-1)) i (by simpa using hi) (by simp)
    have h2 := neg_le (List.replicate a (-1))
    rw [List.length_replicate] at h2
    omega
theorem joins_f (a b : Int) {i j : Int} (hi : 0 ≤ i ∧ i ≤ 5) (hj : 0 ≤ j ∧ j ≤ 5) (h : i ≠ j) : impl_Ground_joins.f a b i j = some (nearB b i j) := by
  unfold impl_Ground_joins.f nearB
  rw [if_neg h, if_neg h, impl_road_f hi hj h, Option.bind_some]
theorem spec_bfs_l2 (a : Nat) (b : Int) (ha : a ≤ 6) (k : Nat) (R : List Int) : ∀ d j : Nat, j + d = a → ∀ s : List Int × List Int, Bfs a s → k < s.2.length → 0 ≤ rd s.1 (rd s.2 (k : Int)) →
    Ev (fun q => spec_l09Distances.l1 q (inJ b (rd s.2 (k : Int)) d j s).1 (inJ b (rd s.2 (k : Int)) d j s).2 ((k + 1 : Nat) : Int) (a : Int) b) R →
    Ev (fun q => spec_l09Distances.l2 q s.1 s.2 (k : Int) (j : Int) (a : Int) b) R := by
  intro d
  induction d with
  | zero =>
    intro j hj s B hk h0 hR
    have hn := B.num
    refine Ev.step (fun q => by rw [spec_l09Distances.l2]) ?_
    rw [wrap_succ (n := k) (by omega)]
    exact ev_neg (by omega) hR
  | succ d ih =>
    intro j hj s B hk h0 hR
    have hl := B.len
    have hn := B.num
    have hm := B.mem (rd s.2 (k : Int)) (by rw [rd_nat hk]; exact List.getElem_mem hk)
    have hhi := B.hi (rd s.2 (k : Int)).toNat (by omega)
    rw [show (((rd s.2 (k : Int)).toNat : Nat) : Int) = rd s.2 (k : Int) by omega] at hhi
    have B' := B.step (b := b) (j := j) (by omega) hm
    have hS := stepJ_rd (b := b) (h := rd s.2 (k : Int)) (j := j) (s := s) k hk
    have hH := stepJ_head (b := b) (j := j) B (by omega) hm
    have ih := ih (j + 1) (by omega) (stepJ b (rd s.2 (k : Int)) j s) B' (by omega) (by rw [hS.1]; exact hH)
    rw [hS.1] at ih
    have ih := ih hR
    unfold stepJ at ih
    refine Ev.step (fun q => by rw [spec_l09Distances.l2]) ?_
    rw [wrap_succ (n := j) (by omega)]
    refine ev_pos (by omega) (ev_pos (by omega) (ev_pos (by omega) ?_))
    by_cases c : rd s.1 (j : Int) < 0
    · refine ev_pos c (ev_pos (by omega) (ev_pos (by omega) (ev_fix (l09Near_f _ _ (by omega) (by omega)) ?_)))
      cases hq : nearB b (rd s.2 (k : Int)) (j : Int) with
      | true =>
        rw [if_pos ⟨c, hq⟩] at ih
        refine ev_pos rfl (ev_pos (by omega) (ev_pos (by omega) (ev_pos (by omega) ?_)))
        rw [wrap_id (by omega) (by omega), Int.toNat_natCast]
        exact ih
      | false =>
        rw [if_neg (by rw [hq]; simp)] at ih
        exact ev_neg (by simp) ih
    · rw [if_neg (fun h => c h.1)] at ih
      exact ev_neg c ih
theorem Bfs.inner {a : Nat} {b h : Int} : ∀ d j : Nat, j + d = a → ∀ s : List Int × List Int, Bfs a s → (0 ≤ h ∧ h < (a : Int) ∧ 0 ≤ rd s.1 h) → Bfs a (inJ b h d j s) := by
  intro d
  induction d with
  | zero => intro j _ s B _; exact B
  | succ d ih => intro j hj s B hh; exact ih (j + 1) (by omega) _ (B.step (by omega) hh) ⟨hh.1, hh.2.1, stepJ_head B (by omega) hh⟩
theorem spec_bfs_l1 (a : Nat) (b : Int) (ha : a ≤ 6) : ∀ f k : Nat, ∀ s : List Int × List Int, Bfs a s → a < f + k →
    Ev (fun q => spec_l09Distances.l1 q s.1 s.2 (k : Int) (a : Int) b) (bfsF a b f k s) := by
  intro f
  induction f with
  | zero =>
    intro k s B hk
    have hn := B.num
    refine Ev.step (fun q => by rw [spec_l09Distances.l1]) ?_
    exact ev_neg (by omega) (ev_now _)
  | succ f ih =>
    intro k s B hk
    have hn := B.num
    refine Ev.step (fun q => by rw [spec_l09Distances.l1]) ?_
    rw [bfsF]
    by_cases c : k < s.2.length
    · have hm := B.mem (rd s.2 (k : Int)) (by rw [rd_nat c]; exact List.getElem_mem c)
      rw [if_pos c]
      exact ev_pos (by omega) (spec_bfs_l2 a b ha k _ a 0 (by omega) s B c hm.2.2 (ih (k + 1) _ (Bfs.inner a 0 (by omega) s B hm) (by omega)))
    · rw [if_neg c]
      exact ev_neg (by omega) (ev_now _)
theorem spec_bfs_l0 (a : Nat) (b : Int) (ha : a ≤ 6) (i : Nat) (hi : i < a) : ∀ d j : Nat, j + d = a →
    Ev (fun q => spec_l09Distances.l0 q (i : Int) (List.replicate j (-1) ++ List.replicate d 0) [(i : Int)] (a : Int) (j : Int) (a : Int) b) (dist a b i) := by
  intro d
  induction d with
  | zero =>
    intro j hj
    obtain rfl : j = a := by omega
    refine Ev.step (fun q => by rw [spec_l09Distances.l0]) ?_
    rw [List.replicate_zero, List.append_nil, Int.toNat_natCast]
    exact ev_neg (by omega) (ev_pos (by omega) (ev_pos (by rw [List.length_replicate]; omega) (spec_bfs_l1 j b ha (j + 1) 0 _ (Bfs.start hi) (by omega))))
  | succ d ih =>
    intro j hj
    refine Ev.step (fun q => by rw [spec_l09Distances.l0]) ?_
    rw [wrap_succ (by omega), Int.toNat_natCast]
    refine ev_pos (by omega) (ev_pos (by omega) (ev_pos (by rw [List.length_append, List.length_replicate, List.length_replicate]; omega) ?_))
    have e : (List.replicate j (-1 : Int) ++ List.replicate (d + 1) 0).set j (-1) = List.replicate (j + 1) (-1) ++ List.replicate d 0 := by
      rw [List.set_append_right _ _ (by simp), List.length_replicate, Nat.sub_self, List.replicate_succ, List.set_cons_zero, List.replicate_succ', List.append_assoc]
      rfl
    rw [e]
    exact ih (j + 1) (by omega)
theorem l09Distances_ev (a : Nat) (b : Int) (ha : a ≤ 6) (i : Nat) (hi : i < a) : Ev (fun q => spec_l09Distances.f q (a : Int) b (i : Int)) (dist a b i) := by
  unfold spec_l09Distances.f
  refine ev_pos (by omega) (ev_pos (by omega) ?_)
  refine ev_fix (a := List.replicate a 0) (by rw [Int.toNat_natCast]) ?_
  rw [List.length_replicate]
  exact spec_bfs_l0 a b ha i hi a 0 (by omega)
theorem drop_rd (l : List Int) (k : Nat) (h : k < l.length) : rd (l.drop k) 0 = rd l (k : Int) := by
  rw [show (0 : Int) = ((0 : Nat) : Int) from rfl, rd_nat (by rw [List.length_drop]; omega), rd_nat h, List.getElem_drop]
  rfl
theorem impl_bfs_l1 (a : Nat) (b : Int) (ha : a ≤ 6) (k : Nat) (R : List Int) : ∀ d j : Nat, j + d = a → ∀ s : List Int × List Int, Bfs a s → k < s.2.length → 0 ≤ rd s.1 (rd s.2 (k : Int)) →
    Ev (fun q => impl_Ground_distances.l0 q (inJ b (rd s.2 (k : Int)) d j s).1 ((inJ b (rd s.2 (k : Int)) d j s).2.drop (k + 1)) (a : Int) b) R →
    Ev (fun q => impl_Ground_distances.l1 q s.1 (s.2.drop k) (a : Int) (j : Int) (a : Int) b) R := by
  intro d
  induction d with
  | zero =>
    intro j hj s B hk h0 hR
    have hn := B.num
    refine Ev.step (fun q => by rw [impl_Ground_distances.l1]) ?_
    refine ev_neg (by omega) (ev_pos (by rw [List.length_drop]; omega) ?_)
    rw [List.drop_drop]
    exact hR
  | succ d ih =>
    intro j hj s B hk h0 hR
    have hl := B.len
    have hn := B.num
    have hm := B.mem (rd s.2 (k : Int)) (by rw [rd_nat hk]; exact List.getElem_mem hk)
    have hhi := B.hi (rd s.2 (k : Int)).toNat (by omega)
    rw [show (((rd s.2 (k : Int)).toNat : Nat) : Int) = rd s.2 (k : Int) by omega] at hhi
    have B' := B.step (b := b) (j := j) (by omega) hm
    have hS := stepJ_rd (b := b) (h := rd s.2 (k : Int)) (j := j) (s := s) k hk
    have hH := stepJ_head (b := b) (j := j) B (by omega) hm
    have ih := ih (j + 1) (by omega) (stepJ b (rd s.2 (k : Int)) j s) B' (by omega) (by rw [hS.1]; exact hH)
    rw [hS.1] at ih
    have ih := ih hR
    unfold stepJ at ih
    refine Ev.step (fun q => by rw [impl_Ground_distances.l1]) ?_
    rw [wrap_succ (n := j) (by omega), drop_rd _ _ hk]
    refine ev_pos (by omega) (ev_pos (by omega) (ev_pos (by omega) ?_))
    by_cases c : rd s.1 (j : Int) < 0
    · refine ev_pos c (ev_pos (by rw [List.length_drop]; omega) (ev_fix (joins_f _ _ (by omega) (by omega) (fun e => by rw [e] at h0; omega)) ?_))
      cases hq : nearB b (rd s.2 (k : Int)) (j : Int) with
      | true =>
        rw [if_pos ⟨c, hq⟩] at ih
        refine ev_pos rfl (ev_pos (by omega) (ev_pos (by omega) (ev_pos (by rw [List.length_drop]; omega) ?_)))
        rw [wrap_id (by omega) (by omega), Int.toNat_natCast]
        rw [List.drop_append_of_le_length (by omega)] at ih
        exact ih
      | false =>
        rw [if_neg (by rw [hq]; simp)] at ih
        exact ev_neg (by simp) ih
    · rw [if_neg (fun h => c h.1)] at ih
      exact ev_neg c ih
theorem impl_bfs_l0 (a : Nat) (b : Int) (ha : a ≤ 6) : ∀ f k : Nat, ∀ s : List Int × List Int, Bfs a s → a < f + k →
    Ev (fun q => impl_Ground_distances.l0 q s.1 (s.2.drop k) (a : Int) b) (bfsF a b f k s) := by
  intro f
  induction f with
  | zero =>
    intro k s B hk
    have hn := B.num
    refine Ev.step (fun q => by rw [impl_Ground_distances.l0]) ?_
    exact ev_neg (by rw [List.length_drop]; omega) (ev_now _)
  | succ f ih =>
    intro k s B hk
    have hn := B.num
    refine Ev.step (fun q => by rw [impl_Ground_distances.l0]) ?_
    rw [bfsF]
    by_cases c : k < s.2.length
    · have hm := B.mem (rd s.2 (k : Int)) (by rw [rd_nat c]; exact List.getElem_mem c)
      rw [if_pos c]
      exact ev_pos (by rw [List.length_drop]; omega) (impl_bfs_l1 a b ha k _ a 0 (by omega) s B c hm.2.2 (ih (k + 1) _ (Bfs.inner a 0 (by omega) s B hm) (by omega)))
    · rw [if_neg c]
      exact ev_neg (by rw [List.length_drop]; omega) (ev_now _)
theorem distances_ev (a : Nat) (b : Int) (ha : a ≤ 6) (i : Nat) (hi : i < a) : Ev (fun q => impl_Ground_distances.f q (a : Int) b (i : Int)) (dist a b i) := by
  unfold impl_Ground_distances.f
  refine ev_fix (a := List.replicate a (-1)) (by
    unfold slices_Repeat_Sint64_int64.f
    rw [if_pos ⟨rfl, by omega, by omega⟩, Int.toNat_natCast]
    rfl) ?_
  rw [Int.toNat_natCast]
  exact ev_pos (by omega) (ev_pos (by rw [List.length_replicate]; omega) (impl_bfs_l0 a b ha (a + 1) 0 _ (Bfs.start hi) (by omega)))
end Go.Proofs.Ythafpimegaomlaa.Pure
end
section
namespace Go.Proofs.Ythafpimegaomlaa.P
open Go.RowKit Go.Proofs.YthafpimegaomlaaW.PrintWords Go.Proofs.YthafpimegaomlaaW.PrintLast Go.Proofs.YthafpimegaomlaaW.PrintMore
attribute [local go_sem] max2_int min2_int max_two min_two max_three min_three max_four min_four   -- for this text's walks alone
set_option linter.unusedVariables false
set_option linter.unusedSimpArgs false
theorem within_f (n lo hi : Int) : impl_within.f n lo hi = some (decide (lo ≤ n ∧ n ≤ hi)) := by
  unfold impl_within.f
  by_cases h : lo ≤ n
  · rw [if_pos h]; simp [h]
  · rw [if_neg h]; simp [h]
end Go.Proofs.Ythafpimegaomlaa.P
end
section
namespace Go.Proofs.Ythafpimegaomlaa.Pure
open Go.RowKit Go.Proofs.Ythafpimegaomlaa.P Go.Proofs.YthafpimegaomlaaW.PrintWords Go.Proofs.YthafpimegaomlaaW.PrintLast Go.Proofs.YthafpimegaomlaaW.PrintMore
set_option linter.unusedVariables false
set_option linter.unusedSimpArgs false
theorem l01In_f (n lo hi : Int) : spec_l01In.f n lo hi = some (decide (lo ≤ n ∧ n ≤ hi)) := by
  unfold spec_l01In.f
  by_cases h : n ≥ lo
  · rw [if_pos h]; simp [show lo ≤ n from h]
  · rw [if_neg h]; simp [show ¬ lo ≤ n from h]
end Go.Proofs.Ythafpimegaomlaa.Pure
end
section
namespace Go.Proofs.Ythafpimegaomlaa.Pure
open Go.RowKit Go.Proofs.Ythafpimegaomlaa.P Go.Proofs.YthafpimegaomlaaW.PrintWords Go.Proofs.YthafpimegaomlaaW.PrintLast Go.Proofs.YthafpimegaomlaaW.PrintMore
set_option linter.unusedVariables false
set_option linter.unusedSimpArgs false
theorem dec_le_congr {b c d : Int} (h : c = d) : decide (0 ≤ b ∧ b ≤ c) = decide (0 ≤ b ∧ b ≤ d) := by rw [h]
/-- A ground: 1 to 6 places, and a number of roads that has a digit for each two of them. -/
def isGround (a b : Int) : Bool := decide (1 ≤ a ∧ a ≤ 6) && decide (0 ≤ b ∧ b ≤ 2 ^ (a * (a - 1) / 2).toNat - 1)
theorem l09Is_f (a b : Int) : spec_l09Is.f a b = some (isGround a b) := by
  unfold spec_l09Is.f
  rw [l01In_f, Option.bind_some]
  by_cases h : 1 ≤ a ∧ a ≤ 6
  · rw [decide_eq_true h, if_pos rfl]
    obtain rfl | rfl | rfl | rfl | rfl | rfl : a = 1 ∨ a = 2 ∨ a = 3 ∨ a = 4 ∨ a = 5 ∨ a = 6 := by omega
    all_goals
      rw [if_pos (by decide +kernel), l01In_f, Option.bind_some, isGround, decide_eq_true h, Bool.true_and]
      exact congrArg some (dec_le_congr (by decide +kernel))
  · rw [decide_eq_false h, if_neg (by simp), isGround, decide_eq_false h, Bool.false_and]
theorem IsGround_f (a b : Int) : impl_IsGround.f a b = some (isGround a b) := by
  unfold impl_IsGround.f
  rw [within_f, Option.bind_some]
  by_cases h : 1 ≤ a ∧ a ≤ 6
  · rw [decide_eq_true h, if_pos rfl]
    obtain rfl | rfl | rfl | rfl | rfl | rfl : a = 1 ∨ a = 2 ∨ a = 3 ∨ a = 4 ∨ a = 5 ∨ a = 6 := by omega
    all_goals
      rw [if_pos (by decide +kernel), within_f, Option.bind_some, isGround, decide_eq_true h, Bool.true_and]
      exact congrArg some (dec_le_congr (by decide +kernel))
  · rw [decide_eq_false h, if_neg (by simp), isGround, decide_eq_false h, Bool.false_and]
theorem isGround_lt {a b : Int} (h : isGround a b = true) : 1 ≤ a ∧ a ≤ 6 := by
  rw [isGround, Bool.and_eq_true] at h
  exact of_decide_eq_true h.1
end Go.Proofs.Ythafpimegaomlaa.Pure
end
section
namespace Go.Proofs.Ythafpimegaomlaa.Pure
open Go.RowKit Go.Proofs.Ythafpimegaomlaa.P Go.Proofs.YthafpimegaomlaaW.PrintWords Go.Proofs.YthafpimegaomlaaW.PrintLast Go.Proofs.YthafpimegaomlaaW.PrintMore
set_option linter.unusedVariables false
set_option linter.unusedSimpArgs false
theorem groundCode_f (a b : Int) (c : Bool) : impl_groundCode.f a b c = some (if isGround a b = true then (if c = true then 0 else 2) else 1) := by
  unfold impl_groundCode.f
  rw [IsGround_f, Option.bind_some]
  cases isGround a b <;> cases c <;> rfl
end Go.Proofs.Ythafpimegaomlaa.Pure
end
section
namespace Go.Proofs.Ythafpimegaomlaa.Pure
open Go.RowKit Go.Proofs.Ythafpimegaomlaa.P Go.Proofs.YthafpimegaomlaaW.PrintWords Go.Proofs.YthafpimegaomlaaW.PrintLast Go.Proofs.YthafpimegaomlaaW.PrintMore
set_option linter.unusedVariables false
set_option linter.unusedSimpArgs false
theorem Index_l0 (l : List Int) (x : Int) (hl : l.length ≤ 9223372036854775807) : ∀ d n : Nat, n + d = l.length → (∀ y ∈ l.take n, y ≠ x) → Ev (fun k => slices_Index_Sint64_int64.l0 k l x (l.length : Int) (n : Int)) (if x ∈ l then (l.idxOf x : Int) else -1) := by
  intro d
  induction d with
  | zero =>
    intro n hn hno
    refine Ev.step (fun k => by rw [slices_Index_Sint64_int64.l0]) (ev_neg (by omega) (ev_is ?_))
    rw [List.take_of_length_le (by omega)] at hno
    rw [if_neg (fun h => hno x h rfl)]
  | succ d ih =>
    intro n hn hno
    have hlt : n < l.length := by omega
    refine Ev.step (fun k => by rw [slices_Index_Sint64_int64.l0]) (ev_pos (by omega) (ev_pos (by omega) (ev_pos (by omega) ?_)))
    rw [rd_nat hlt]
    by_cases h : x = l[n]
    · refine ev_pos h (ev_is ?_)
      rw [if_pos (h ▸ List.getElem_mem hlt)]
      congr 2
      symm
      rw [List.idxOf, List.findIdx_eq hlt]
      refine ⟨by simp [h], fun j hj => ?_⟩
      have := hno l[j] (List.mem_take_iff_getElem.2 ⟨j, by omega, rfl⟩)
      simpa using this
    · refine ev_neg h ?_
      rw [wrap_succ (by omega)]
      refine ih (n + 1) (by omega) ?_
      rw [List.take_succ_eq_append_getElem hlt]
      intro y hy
      rcases List.mem_append.1 hy with hy | hy
      · exact hno y hy
      · rw [List.mem_singleton.1 hy]; exact fun e => h e.symm
theorem Index_ev (l : List Int) (x : Int) (hl : l.length ≤ 9223372036854775807) : Ev (fun k => slices_Index_Sint64_int64.f k l x) (if x ∈ l then (l.idxOf x : Int) else -1) := by
  unfold slices_Index_Sint64_int64.f
  exact Index_l0 l x hl l.length 0 (by omega) (by simp)
theorem Contains_ev (l : List Int) (x : Int) (hl : l.length ≤ 9223372036854775807) : Ev (fun k => slices_Contains_Sint64_int64.f k l x) (l.contains x) := by
  unfold slices_Contains_Sint64_int64.f
  refine ev_bind (Index_ev l x hl) (ev_is ?_)
  by_cases h : x ∈ l
  · rw [if_pos h, List.contains_eq_mem, decide_eq_true h]; simp
  · rw [if_neg h, List.contains_eq_mem, decide_eq_false h]; simp
end Go.Proofs.Ythafpimegaomlaa.Pure
end
section
namespace Go.Proofs.Ythafpimegaomlaa.Pure
open Go.RowKit Go.Proofs.Ythafpimegaomlaa.P Go.Proofs.YthafpimegaomlaaW.PrintWords Go.Proofs.YthafpimegaomlaaW.PrintLast Go.Proofs.YthafpimegaomlaaW.PrintMore
set_option linter.unusedVariables false
set_option linter.unusedSimpArgs false
theorem nearB_comm (b i j : Int) : nearB b i j = nearB b j i := by
  have e : roadOf i j = roadOf j i := by unfold roadOf; rw [Int.max_comm, Int.min_comm]
  unfold nearB
  rw [e]
  by_cases h : i = j
  · rw [if_pos h, if_pos h.symm]
  · rw [if_neg h, if_neg (fun q => h q.symm)]
theorem stepJ_keep {b h : Int} {j : Nat} {s : List Int × List Int} (hj : j < s.1.length) (hh : 0 ≤ rd s.1 h) (q : Nat) (h0 : 0 ≤ rd s.1 (q : Int)) : 0 ≤ rd (stepJ b h j s).1 (q : Int) := by
  unfold stepJ
  split
  · show 0 ≤ rd (s.1.set j (rd s.1 h + 1)) (q : Int)
    rw [rd_set hj]
    split <;> omega
  · exact h0
structure Srch (a : Nat) (b : Int) (C : Nat → Prop) (s : List Int × List Int) : Prop where
  bfs : Bfs a s
  mem : ∀ j : Nat, j < a → 0 ≤ rd s.1 (j : Int) → (j : Int) ∈ s.2
  low : ∀ j : Nat, j < a → 0 ≤ rd s.1 (j : Int) → C j
theorem Srch.step {a : Nat} {b h : Int} {C : Nat → Prop} {j : Nat} {s : List Int × List Int} (S : Srch a b C s) (hC : ∀ h j : Nat, h < a → j < a → C h → nearB b (h : Int) (j : Int) = true → C j) (hj : j < a) (hh : 0 ≤ h ∧ h < (a : Int) ∧ 0 ≤ rd s.1 h) :
    Srch a b C (stepJ b h j s) ∧ (nearB b h (j : Int) = true → 0 ≤ rd (stepJ b h j s).1 (j : Int)) := by
  have hl := S.bfs.len
  refine ⟨⟨S.bfs.step hj hh, ?_, ?_⟩, ?_⟩
  · intro q hq h0
    unfold stepJ at h0 ⊢
    split
    · next c =>
      rw [if_pos c] at h0
      have h0 : 0 ≤ rd (s.1.set j (rd s.1 h + 1)) (q : Int) := h0
      show (q : Int) ∈ s.2 ++ [(j : Int)]
      rw [rd_set (by omega)] at h0
      by_cases e : q = j
      · subst e; simp
      · rw [if_neg e] at h0
        exact List.mem_append_left _ (S.mem q hq h0)
    · next c =>
      rw [if_neg c] at h0
      exact S.mem q hq h0
  · intro q hq h0
    unfold stepJ at h0
    split at h0
    · next c =>
      have h0 : 0 ≤ rd (s.1.set j (rd s.1 h + 1)) (q : Int) := h0
      rw [rd_set (by omega)] at h0
      by_cases e : q = j
      · subst e
        have := S.low h.toNat (by omega) (by rw [show ((h.toNat : Nat) : Int) = h by omega]; exact hh.2.2)
        exact hC h.toNat q (by omega) hq this (by rw [show ((h.toNat : Nat) : Int) = h by omega]; exact c.2)
      · rw [if_neg e] at h0
        exact S.low q hq h0
    · exact S.low q hq h0
  · intro hn
    unfold stepJ
    split
    · show 0 ≤ rd (s.1.set j (rd s.1 h + 1)) (j : Int)
      rw [rd_set (by omega), if_pos rfl]; omega
    · next c =>
      have : ¬ rd s.1 (j : Int) < 0 := fun q => c ⟨q, hn⟩
      omega
theorem Srch.inner {a : Nat} {b h : Int} {C : Nat → Prop} (hC : ∀ h j : Nat, h < a → j < a → C h → nearB b (h : Int) (j : Int) = true → C j) : ∀ d j : Nat, j + d = a → ∀ s : List Int × List Int, Srch a b C s → (0 ≤ h ∧ h < (a : Int) ∧ 0 ≤ rd s.1 h) →
    Srch a b C (inJ b h d j s) ∧ (∀ q : Nat, j ≤ q → q < a → nearB b h (q : Int) = true → 0 ≤ rd (inJ b h d j s).1 (q : Int)) ∧ (∀ q : Nat, 0 ≤ rd s.1 (q : Int) → 0 ≤ rd (inJ b h d j s).1 (q : Int))
    ∧ s.2.length ≤ (inJ b h d j s).2.length ∧ (∀ k : Nat, k < s.2.length → rd (inJ b h d j s).2 (k : Int) = rd s.2 (k : Int)) := by
  intro d
  induction d with
  | zero => intro j hj s S hh; exact ⟨S, fun q h1 h2 _ => absurd h2 (by omega), fun q h0 => h0, Nat.le_refl _, fun k _ => rfl⟩
  | succ d ih =>
    intro j hj s S hh
    have hl := S.bfs.len
    obtain ⟨S1, hn⟩ := S.step hC (show j < a by omega) hh
    have hk := fun q h0 => stepJ_keep (b := b) (h := h) (j := j) (s := s) (by omega) hh.2.2 q h0
    have hL : s.2.length ≤ (stepJ b h j s).2.length := by
      unfold stepJ; split
      · show s.2.length ≤ (s.2 ++ [(j : Int)]).length; rw [List.length_append]; omega
      · exact Nat.le_refl _
    obtain ⟨i1, i2, i3, i4, i5⟩ := ih (j + 1) (by omega) _ S1 ⟨hh.1, hh.2.1, stepJ_head S.bfs (by omega) hh⟩
    refine ⟨i1, fun q h1 h2 h3 => ?_, fun q h0 => i3 q (hk q h0), Nat.le_trans hL i4, fun k hk2 => ?_⟩
    · by_cases e : q = j
      · subst e; exact i3 q (hn h3)
      · exact i2 q (by omega) h2 h3
    · have := stepJ_rd (b := b) (h := h) (j := j) (s := s) k hk2
      exact (i5 k (by omega)).trans this.1
theorem Srch.all {a : Nat} {b : Int} {C : Nat → Prop} (hC : ∀ h j : Nat, h < a → j < a → C h → nearB b (h : Int) (j : Int) = true → C j) : ∀ f k : Nat, ∀ s : List Int × List Int, Srch a b C s → a < f + k →
    (∀ m : Nat, m < k → m < s.2.length → ∀ q : Nat, q < a → nearB b (rd s.2 (m : Int)) (q : Int) = true → 0 ≤ rd s.1 (q : Int)) →
    (∀ q : Nat, 0 ≤ rd s.1 (q : Int) → 0 ≤ rd (bfsF a b f k s) (q : Int)) ∧
    (∀ q : Nat, q < a → 0 ≤ rd (bfsF a b f k s) (q : Int) → C q) ∧
    (∀ h q : Nat, h < a → q < a → 0 ≤ rd (bfsF a b f k s) (h : Int) → nearB b (h : Int) (q : Int) = true → 0 ≤ rd (bfsF a b f k s) (q : Int)) := by
  intro f
  have fin : ∀ k : Nat, ∀ s : List Int × List Int, Srch a b C s → s.2.length ≤ k → (∀ m : Nat, m < k → m < s.2.length → ∀ q : Nat, q < a → nearB b (rd s.2 (m : Int)) (q : Int) = true → 0 ≤ rd s.1 (q : Int)) →
      (∀ q : Nat, q < a → 0 ≤ rd s.1 (q : Int) → C q) ∧ (∀ h q : Nat, h < a → q < a → 0 ≤ rd s.1 (h : Int) → nearB b (h : Int) (q : Int) = true → 0 ≤ rd s.1 (q : Int)) := by
    intro k s S hk hp
    refine ⟨S.low, fun h q hh hq h0 hn => ?_⟩
    obtain ⟨m, hm, e⟩ := List.getElem_of_mem (S.mem h hh h0)
    exact hp m (by omega) hm q hq (by rw [rd_nat hm, e]; exact hn)
  induction f with
  | zero =>
    intro k s S hk hp
    have := S.bfs.num
    exact ⟨fun q h0 => h0, fin k s S (by omega) hp⟩
  | succ f ih =>
    intro k s S hk hp
    rw [bfsF]
    split
    · next c =>
      have hm := S.bfs.mem (rd s.2 (k : Int)) (by rw [rd_nat c]; exact List.getElem_mem c)
      obtain ⟨i1, i2, i3, i4, i5⟩ := Srch.inner hC a 0 (by omega) s S hm
      have hp2 : ∀ m : Nat, m < k + 1 → m < (inJ b (rd s.2 (k : Int)) a 0 s).2.length → ∀ q : Nat, q < a → nearB b (rd (inJ b (rd s.2 (k : Int)) a 0 s).2 (m : Int)) (q : Int) = true → 0 ≤ rd (inJ b (rd s.2 (k : Int)) a 0 s).1 (q : Int) := by
        intro m h1 h2 q hq hn
        by_cases e : m = k
        · subst e
          rw [i5 m c] at hn
          exact i2 q (by omega) hq hn
        · rw [i5 m (by omega)] at hn
          exact i3 q (hp m (by omega) (by omega) q hq hn)
      obtain ⟨j1, j2, j3⟩ := ih (k + 1) _ i1 (by omega) hp2
      exact ⟨fun q h0 => j1 q (i3 q h0), j2, j3⟩
    · next c => exact ⟨fun q h0 => h0, fin k s S (by omega) hp⟩
theorem rd_start {a i : Nat} (hi : i < a) (q : Nat) (hq : q < a) : rd ((List.replicate a (-1 : Int)).set i 0) (q : Int) = if q = i then 0 else -1 := by
  rw [rd_set (by rw [List.length_replicate]; exact hi), rd_nat (by rw [List.length_replicate]; exact hq), List.getElem_replicate]
theorem Srch.start {a i : Nat} {b : Int} {C : Nat → Prop} (hi : i < a) (h0 : C i) : Srch a b C ((List.replicate a (-1)).set i 0, [(i : Int)]) := by
  refine ⟨Bfs.start hi, fun j hj h => ?_, fun j hj h => ?_⟩
  · have h : 0 ≤ rd ((List.replicate a (-1 : Int)).set i 0) (j : Int) := h
    rw [rd_start hi j hj] at h
    by_cases e : j = i
    · subst e; simp
    · rw [if_neg e] at h; omega
  · have h : 0 ≤ rd ((List.replicate a (-1 : Int)).set i 0) (j : Int) := h
    rw [rd_start hi j hj] at h
    by_cases e : j = i
    · subst e; exact h0
    · rw [if_neg e] at h; omega
/-- A place is met from itself; what is met from a place met is met; and the other way round. -/
theorem dist_low {a : Nat} {b : Int} {i : Nat} (hi : i < a) (C : Nat → Prop) (h0 : C i) (hC : ∀ h j : Nat, h < a → j < a → C h → nearB b (h : Int) (j : Int) = true → C j) (q : Nat) (hq : q < a) (h : 0 ≤ rd (dist a b i) (q : Int)) : C q :=
  (Srch.all hC (a + 1) 0 _ (Srch.start hi h0) (by omega) (fun m h => absurd h (by omega))).2.1 q hq h
theorem dist_self {a : Nat} {b : Int} {i : Nat} (hi : i < a) : 0 ≤ rd (dist a b i) (i : Int) :=
  (Srch.all (C := fun _ => True) (fun _ _ _ _ _ _ => trivial) (a + 1) 0 _ (Srch.start (b := b) hi trivial) (by omega) (fun m h => absurd h (by omega))).1 i (by
    show 0 ≤ rd ((List.replicate a (-1 : Int)).set i 0) (i : Int)
    rw [rd_start hi i hi, if_pos rfl]; omega)
theorem dist_near {a : Nat} {b : Int} {i : Nat} (hi : i < a) {h q : Nat} (hh : h < a) (hq : q < a) (h0 : 0 ≤ rd (dist a b i) (h : Int)) (hn : nearB b (h : Int) (q : Int) = true) : 0 ≤ rd (dist a b i) (q : Int) :=
  (Srch.all (C := fun _ => True) (fun _ _ _ _ _ _ => trivial) (a + 1) 0 _ (Srch.start (b := b) hi trivial) (by omega) (fun m h => absurd h (by omega))).2.2 h q hh hq h0 hn
theorem dist_trans {a : Nat} {b : Int} {i j q : Nat} (hi : i < a) (hj : j < a) (hq : q < a) (h1 : 0 ≤ rd (dist a b i) (j : Int)) (h2 : 0 ≤ rd (dist a b j) (q : Int)) : 0 ≤ rd (dist a b i) (q : Int) :=
  dist_low (b := b) hj (fun x => 0 ≤ rd (dist a b i) (x : Int)) h1 (fun h x hh hx ch hn => dist_near hi hh hx ch hn) q hq h2
theorem dist_back {a : Nat} {b : Int} {i j : Nat} (hi : i < a) (hj : j < a) (h1 : 0 ≤ rd (dist a b i) (j : Int)) : 0 ≤ rd (dist a b j) (i : Int) :=
  dist_low (b := b) hi (fun x => 0 ≤ rd (dist a b x) (i : Int)) (dist_self hi) (fun h x hh hx ch hn =>
    dist_trans hx hh hi (dist_near hx hx hh (dist_self hx) (by rw [nearB_comm]; exact hn)) ch) j hj h1
theorem dist_conn {a : Nat} {b : Int} (ha : 0 < a) (h : ∀ q : Nat, q < a → 0 ≤ rd (dist a b 0) (q : Int)) (i j : Nat) (hi : i < a) (hj : j < a) : 0 ≤ rd (dist a b i) (j : Int) :=
  dist_trans hi ha hj (dist_back ha hi (h i hi)) (h j hj)
theorem bfsF_bds (a : Nat) (b : Int) : ∀ f k : Nat, ∀ s : List Int × List Int, Bfs a s → (∀ q : Nat, q < a → -1 ≤ rd s.1 (q : Int)) → ∀ q : Nat, q < a → -1 ≤ rd (bfsF a b f k s) (q : Int) ∧ rd (bfsF a b f k s) (q : Int) ≤ (a : Int) := by
  have hs : ∀ (h : Int) (j : Nat) (s : List Int × List Int), Bfs a s → j < a → 0 ≤ rd s.1 h → (∀ q : Nat, q < a → -1 ≤ rd s.1 (q : Int)) → ∀ q : Nat, q < a → -1 ≤ rd (stepJ b h j s).1 (q : Int) := by
    intro h j s B hj hh hm q hq
    unfold stepJ
    split
    · show -1 ≤ rd (s.1.set j (rd s.1 h + 1)) (q : Int)
      have := B.len
      have := hm q hq
      rw [rd_set (by omega)]
      split <;> omega
    · exact hm q hq
  have hin : ∀ (h : Int) (d j : Nat), j + d = a → ∀ s : List Int × List Int, Bfs a s → (0 ≤ h ∧ h < (a : Int) ∧ 0 ≤ rd s.1 h) → (∀ q : Nat, q < a → -1 ≤ rd s.1 (q : Int)) → ∀ q : Nat, q < a → -1 ≤ rd (inJ b h d j s).1 (q : Int) := by
    intro h d
    induction d with
    | zero => intro j _ s _ _ hm; exact hm
    | succ d ih => intro j hj s B hh hm; exact ih (j + 1) (by omega) _ (B.step (by omega) hh) ⟨hh.1, hh.2.1, stepJ_head B (by omega) hh⟩ (hs h j s B (by omega) hh.2.2 hm)
  intro f
  induction f with
  | zero =>
    intro k s B hm q hq
    have := B.hi q hq; have := B.num
    exact ⟨hm q hq, by show rd s.1 (q : Int) ≤ _; omega⟩
  | succ f ih =>
    intro k s B hm
    rw [bfsF]
    split
    · next c =>
      have hh := B.mem (rd s.2 (k : Int)) (by rw [rd_nat c]; exact List.getElem_mem c)
      exact ih (k + 1) _ (Bfs.inner a 0 (by omega) s B hh) (hin _ a 0 (by omega) s B hh hm)
    · intro q hq
      have := B.hi q hq; have := B.num
      exact ⟨hm q hq, by omega⟩
theorem dist_bds {a : Nat} {b : Int} {i : Nat} (hi : i < a) (q : Nat) (hq : q < a) : -1 ≤ rd (dist a b i) (q : Int) ∧ rd (dist a b i) (q : Int) ≤ (a : Int) :=
  bfsF_bds a b (a + 1) 0 _ (Bfs.start hi) (fun q hq => by
    show -1 ≤ rd ((List.replicate a (-1 : Int)).set i 0) (q : Int)
    rw [rd_start hi q hq]; split <;> omega) q hq
theorem dist_length {a : Nat} {b : Int} (i : Nat) : (dist a b i).length = a := by
  have hs : ∀ h j s, (stepJ b h j s).1.length = s.1.length := fun h j s => by
    unfold stepJ
    split
    · exact List.length_set
    · rfl
  have hi : ∀ h d j s, (inJ b h d j s).1.length = s.1.length := fun h d => by
    induction d with
    | zero => intro j s; rfl
    | succ d ih => intro j s; rw [inJ, ih, hs]
  have hb : ∀ f k s, (bfsF a b f k s).length = s.1.length := fun f => by
    induction f with
    | zero => intro k s; rfl
    | succ f ih =>
      intro k s
      rw [bfsF]
      split
      · rw [ih, hi]
      · rfl
  unfold dist
  rw [hb, List.length_set, List.length_replicate]
end Go.Proofs.Ythafpimegaomlaa.Pure
end
section
namespace Go.Proofs.Ythafpimegaomlaa.Pure
open Go.RowKit Go.Proofs.Ythafpimegaomlaa.P Go.Proofs.YthafpimegaomlaaW.PrintWords Go.Proofs.YthafpimegaomlaaW.PrintLast Go.Proofs.YthafpimegaomlaaW.PrintMore
set_option linter.unusedVariables false
set_option linter.unusedSimpArgs false
def memB (t j : Nat) : Bool := decide (t / 2 ^ j % 2 = 1)
theorem memB_shl : ∀ n : Nat, n < 7 → shl .i64 1 (IntKind.u64.wrap (n : Int)) = ((2 ^ n : Nat) : Int) ∧ 0 ≤ IntKind.u64.wrap (n : Int) ∧ shl .i64 1 (n : Int) = ((2 ^ n : Nat) : Int) ∧ shl .i64 (n : Int) (IntKind.u64.wrap (n : Int)) = ((n * 2 ^ n : Nat) : Int) := by decide +kernel
theorem memB_and : ∀ t : Nat, t < 64 → ∀ j : Nat, j < 6 → (Go.bits .and .i64 (shr .i64 (t : Int) (IntKind.u64.wrap (j : Int))) 1 = (if memB t j = true then 1 else 0)) ∧ (Go.bits .and .i64 (shr .i64 (t : Int) (j : Int)) 1 = (if memB t j = true then 1 else 0)) := by decide +kernel
theorem memB_or : ∀ t : Nat, t < 64 → ∀ j : Nat, j < 6 → memB t j = false → Go.bits .or .i64 (t : Int) (shl .i64 1 (IntKind.u64.wrap (j : Int))) = ((t + 2 ^ j : Nat) : Int) := by decide +kernel
theorem memB_andNot : ∀ t : Nat, t < 64 → ∀ j : Nat, j < 6 → memB t j = true → Go.bits .andNot .i64 (t : Int) (shl .i64 1 (j : Int)) = ((t - 2 ^ j : Nat) : Int) := by decide +kernel
theorem memB_not : ∀ n : Nat, n < 7 → ∀ t : Nat, t < 64 → ∀ j : Nat, j < 6 → t < 2 ^ n → j < n → memB (2 ^ n - 1 - t) j = !memB t j := by decide +kernel
theorem memB_add : ∀ t : Nat, t < 64 → ∀ j : Nat, j < 6 → ∀ q : Nat, q < 6 → memB t j = false → memB (t + 2 ^ j) q = (memB t q || decide (q = j)) := by decide +kernel
theorem memB_lt : ∀ n : Nat, n < 7 → ∀ t : Nat, t < 64 → ∀ j : Nat, j < 6 → (t < 2 ^ n ∧ j < n ∧ memB t j = false) → t + 2 ^ j < 2 ^ n := by decide +kernel
theorem memB_ex : ∀ n : Nat, n < 7 → ∀ t : Nat, t < 64 → t < 2 ^ n → t ≠ 0 → ∃ j, j < n ∧ memB t j = true := by
  have h : ∀ n : Nat, n < 7 → ∀ t : Nat, t < 64 → t < 2 ^ n → t ≠ 0 → (List.range n).any (fun j => memB t j) = true := by decide +kernel
  intro n hn t ht h1 h2
  obtain ⟨j, hj, e⟩ := List.any_eq_true.1 (h n hn t ht h1 h2)
  exact ⟨j, List.mem_range.1 hj, e⟩
theorem memB_le {t j : Nat} (h : memB t j = true) : 2 ^ j ≤ t := by
  by_cases c : 2 ^ j ≤ t
  · exact c
  · rw [memB, Nat.div_eq_of_lt (by omega)] at h
    simp at h
theorem two_pos (j : Nat) : 0 < 2 ^ j := Nat.two_pow_pos j
theorem two_le : ∀ n : Nat, n < 7 → 2 ^ n ≤ 64 := by decide
/-- The loop that keeps the least. -/
def minJ (p : Nat → Bool) (c : Nat → Int) : Nat → Nat → Int → Int
  | 0, _, m => m
  | d + 1, j, m => minJ p c d (j + 1) (if p j = true then (if m < 0 then c j else if c j < m then c j else m) else m)
theorem minJ_props {p : Nat → Bool} {c : Nat → Int} : ∀ (d j : Nat) (m : Int), (∀ q, j ≤ q → q < j + d → p q = true → 0 ≤ c q) →
    (0 ≤ m → 0 ≤ minJ p c d j m ∧ minJ p c d j m ≤ m) ∧ (∀ q, j ≤ q → q < j + d → p q = true → 0 ≤ minJ p c d j m ∧ minJ p c d j m ≤ c q) ∧
    (minJ p c d j m = m ∨ ∃ q, j ≤ q ∧ q < j + d ∧ p q = true ∧ minJ p c d j m = c q) := by
  intro d
  induction d with
  | zero => intro j m _; exact ⟨fun h => ⟨h, Int.le_refl _⟩, fun q h1 h2 => absurd h2 (by omega), Or.inl rfl⟩
  | succ d ih =>
    intro j m hc
    obtain ⟨i1, i2, i3⟩ := ih (j + 1) (if p j = true then (if m < 0 then c j else if c j < m then c j else m) else m) (fun q h1 h2 h3 => hc q (by omega) (by omega) h3)
    rw [minJ]
    generalize hr : minJ p c d (j + 1) (if p j = true then (if m < 0 then c j else if c j < m then c j else m) else m) = r at i1 i2 i3 ⊢
    cases hp : p j with
    | false =>
      rw [hp] at i1 i3
      rw [if_neg (by simp)] at i1 i3
      refine ⟨i1, fun q h1 h2 h3 => i2 q (by rcases Nat.lt_or_eq_of_le h1 with h | h; omega; subst h; rw [hp] at h3; exact absurd h3 (by simp)) (by omega) h3, ?_⟩
      rcases i3 with h | ⟨q, h1, h2, h3, h4⟩
      · exact Or.inl h
      · exact Or.inr ⟨q, by omega, by omega, h3, h4⟩
    | true =>
      rw [hp] at i1 i3
      rw [if_pos rfl] at i1 i3
      have hcj := hc j (Nat.le_refl _) (by omega) hp
      by_cases c1 : m < 0
      · rw [if_pos c1] at i1 i3
        obtain ⟨k1, k2⟩ := i1 hcj
        refine ⟨fun h => absurd h (by omega), fun q h1 h2 h3 => ?_, ?_⟩
        · by_cases e : q = j
          · subst e; exact ⟨k1, k2⟩
          · exact i2 q (by omega) (by omega) h3
        · rcases i3 with h | ⟨q, h1, h2, h3, h4⟩
          · exact Or.inr ⟨j, Nat.le_refl _, by omega, hp, h⟩
          · exact Or.inr ⟨q, by omega, by omega, h3, h4⟩
      · rw [if_neg c1] at i1 i3
        by_cases c2 : c j < m
        · rw [if_pos c2] at i1 i3
          obtain ⟨k1, k2⟩ := i1 hcj
          refine ⟨fun h => ⟨k1, by omega⟩, fun q h1 h2 h3 => ?_, ?_⟩
          · by_cases e : q = j
            · subst e; exact ⟨k1, k2⟩
            · exact i2 q (by omega) (by omega) h3
          · rcases i3 with h | ⟨q, h1, h2, h3, h4⟩
            · exact Or.inr ⟨j, Nat.le_refl _, by omega, hp, h⟩
            · exact Or.inr ⟨q, by omega, by omega, h3, h4⟩
        · rw [if_neg c2] at i1 i3
          obtain ⟨k1, k2⟩ := i1 (by omega)
          refine ⟨fun h => ⟨k1, k2⟩, fun q h1 h2 h3 => ?_, ?_⟩
          · by_cases e : q = j
            · subst e; exact ⟨k1, by omega⟩
            · exact i2 q (by omega) (by omega) h3
          · rcases i3 with h | ⟨q, h1, h2, h3, h4⟩
            · exact Or.inl h
            · exact Or.inr ⟨q, by omega, by omega, h3, h4⟩
theorem minJ_none {p : Nat → Bool} {c : Nat → Int} : ∀ (d j : Nat) (m : Int), (∀ q, j ≤ q → q < j + d → p q = false) → minJ p c d j m = m := by
  intro d
  induction d with
  | zero => intro j m _; rfl
  | succ d ih =>
    intro j m h
    rw [minJ, h j (Nat.le_refl _) (by omega), if_neg (by simp)]
    exact ih (j + 1) m fun q h1 h2 => h q (by omega) (by omega)
def roundV (D : Nat → Nat → Int) (n : Nat) (left i : Nat) : Int :=
  if left = 0 then D i 0 else minJ (memB left) (fun j => if h : memB left j = true then D i j + roundV D n (left - 2 ^ j) j else 0) n 0 (-1)
termination_by left
decreasing_by
  have := memB_le h
  have := two_pos j
  omega
theorem roundV_zero (D : Nat → Nat → Int) (n i : Nat) : roundV D n 0 i = D i 0 := by rw [roundV, if_pos rfl]
theorem roundV_bds (D : Nat → Nat → Int) (n : Nat) (hn : 1 ≤ n ∧ n < 7) (hD : ∀ i j, i < n → j < n → 0 ≤ D i j ∧ D i j ≤ 6) : ∀ left : Nat, left < 2 ^ n → ∀ i, i < n → 0 ≤ roundV D n left i ∧ roundV D n left i ≤ 6 * ((left : Int) + 1) := by
  intro left
  induction left using Nat.strongRecOn with
  | _ left ih =>
    intro hl i hi
    by_cases h0 : left = 0
    · subst h0
      rw [roundV_zero]
      have := hD i 0 hi (by omega)
      omega
    · rw [roundV, if_neg h0]
      have h64 := two_le n hn.2
      obtain ⟨j, hj, hm⟩ := memB_ex n hn.2 left (by omega) hl h0
      have hc : ∀ q, 0 ≤ q → q < 0 + n → memB left q = true → 0 ≤ (if h : memB left q = true then D i q + roundV D n (left - 2 ^ q) q else 0) := by
        intro q _ hq hmq
        rw [dif_pos hmq]
        have := memB_le hmq; have := two_pos q
        have h1 := ih (left - 2 ^ q) (by omega) (by omega) q (by omega)
        have h2 := hD i q hi (by omega)
        omega
      obtain ⟨p1, p2, p3⟩ := minJ_props n 0 (-1) hc
      have hq := p2 j (by omega) (by omega) hm
      rw [dif_pos hm] at hq
      have := memB_le hm; have := two_pos j
      have h1 := ih (left - 2 ^ j) (by omega) (by omega) j (by omega)
      have h2 := hD i j hi (by omega)
      omega
theorem roundV_min (D : Nat → Nat → Int) (n : Nat) (hn : 1 ≤ n ∧ n < 7) (hD : ∀ i j, i < n → j < n → 0 ≤ D i j ∧ D i j ≤ 6) (left : Nat) (hl : left < 2 ^ n) (h0 : left ≠ 0) (i : Nat) (hi : i < n) :
    (∀ j, j < n → memB left j = true → roundV D n left i ≤ D i j + roundV D n (left - 2 ^ j) j) ∧ (∃ j, j < n ∧ memB left j = true ∧ roundV D n left i = D i j + roundV D n (left - 2 ^ j) j) := by
  have h64 := two_le n hn.2
  have hc : ∀ q, 0 ≤ q → q < 0 + n → memB left q = true → 0 ≤ (if h : memB left q = true then D i q + roundV D n (left - 2 ^ q) q else 0) := by
    intro q _ hq hmq
    rw [dif_pos hmq]
    have := memB_le hmq; have := two_pos q
    have h1 := roundV_bds D n hn hD (left - 2 ^ q) (by omega) q (by omega)
    have h2 := hD i q hi (by omega)
    omega
  obtain ⟨p1, p2, p3⟩ := minJ_props n 0 (-1) hc
  have e : roundV D n left i = minJ (memB left) (fun j => if h : memB left j = true then D i j + roundV D n (left - 2 ^ j) j else 0) n 0 (-1) := by rw [roundV, if_neg h0]
  rw [← e] at p2 p3
  refine ⟨fun j hj hm => ?_, ?_⟩
  · have := (p2 j (by omega) (by omega) hm).2
    rw [dif_pos hm] at this
    exact this
  · rcases p3 with h | ⟨j, _, hj, hm, h⟩
    · have := (roundV_bds D n hn hD left hl i hi).1; omega
    · rw [dif_pos hm] at h
      exact ⟨j, by omega, hm, h⟩
theorem groundTour_ev (a : Nat) (b : Int) (ha : 1 ≤ a ∧ a < 7) (hD : ∀ i j : Nat, i < a → j < a → 0 ≤ rd (dist a b i) (j : Int) ∧ rd (dist a b i) (j : Int) ≤ 6) : ∀ left : Nat, left < 2 ^ a → ∀ i : Nat, i < a →
    Ev (fun k => impl_Ground_tour.f k (a : Int) b (i : Int) (left : Int) 0) (roundV (fun i j => rd (dist a b i) (j : Int)) a left i) := by
  intro left
  have h64 := two_le a ha.2
  induction left using Nat.strongRecOn with
  | _ left ih =>
    intro hl i hi
    have hlen := dist_length (a := a) (b := b) i
    refine Ev.step (fun k => by rw [impl_Ground_tour.f]) ?_
    by_cases h0 : left = 0
    · subst h0
      rw [roundV_zero]
      refine ev_pos rfl (ev_bind (distances_ev a b (by omega) i hi) ?_)
      exact ev_pos (by omega) (ev_pos (by rw [hlen]; omega) (ev_is rfl))
    · refine ev_neg (by omega) (ev_bind (distances_ev a b (by omega) i hi) ?_)
      rw [hlen]
      have main : ∀ d j : Nat, j + d = a → ∀ m : Int, -1 ≤ m → m ≤ 1000 →
          Ev (fun k => impl_Ground_tour.l0 k (left : Int) 0 m (dist a b i) (a : Int) (j : Int) (a : Int) b)
            (minJ (memB left) (fun j => if h : memB left j = true then rd (dist a b i) (j : Int) + roundV (fun i j => rd (dist a b i) (j : Int)) a (left - 2 ^ j) j else 0) d j m) := by
        intro d
        induction d with
        | zero =>
          intro j hj m _ _
          refine Ev.step (fun k => by rw [impl_Ground_tour.l0]) ?_
          exact ev_neg (by omega) (ev_now _)
        | succ d ihd =>
          intro j hj m hm1 hm2
          refine Ev.step (fun k => by rw [impl_Ground_tour.l0]) ?_
          rw [hlen, wrap_succ (by omega), (memB_and left (by omega) j (by omega)).2, minJ]
          refine ev_pos (by omega) (ev_pos (by omega) (ev_pos (by omega) ?_))
          cases hmj : memB left j with
          | false =>
            rw [if_neg (by simp), if_neg (by simp)]
            exact ev_pos rfl (ihd (j + 1) (by omega) m hm1 hm2)
          | true =>
            rw [if_pos rfl, if_pos rfl, memB_andNot left (by omega) j (by omega) hmj, dif_pos rfl]
            have := memB_le hmj; have := two_pos j
            have hv := roundV_bds (fun i j => rd (dist a b i) (j : Int)) a ha hD (left - 2 ^ j) (by omega) j (by omega)
            have hd := hD i j hi (by omega)
            refine ev_neg (by omega) (ev_bind (ih (left - 2 ^ j) (by omega) (by omega) j (by omega)) ?_)
            rw [wrap_id (by omega) (by omega)]
            by_cases c1 : m < 0
            · rw [if_pos c1]
              exact ev_pos c1 (ihd (j + 1) (by omega) _ (by omega) (by omega))
            · rw [if_neg c1]
              refine ev_neg c1 ?_
              by_cases c2 : rd (dist a b i) (j : Int) + roundV (fun i j => rd (dist a b i) (j : Int)) a (left - 2 ^ j) j < m
              · rw [if_pos c2]
                exact ev_pos c2 (ihd (j + 1) (by omega) _ (by omega) (by omega))
              · rw [if_neg c2]
                exact ev_neg c2 (ihd (j + 1) (by omega) _ hm1 hm2)
      rw [roundV, if_neg h0]
      exact main a 0 (by omega) (-1) (by omega) (by omega)
end Go.Proofs.Ythafpimegaomlaa.Pure
end
section
namespace Go.Proofs.Ythafpimegaomlaa.Pure
open Go.RowKit Go.Proofs.Ythafpimegaomlaa.P Go.Proofs.YthafpimegaomlaaW.PrintWords Go.Proofs.YthafpimegaomlaaW.PrintLast Go.Proofs.YthafpimegaomlaaW.PrintMore
set_option linter.unusedVariables false
set_option linter.unusedSimpArgs false
theorem cell_inj {n s i t j : Nat} (hi : i < n) (hj : j < n) (h : s * n + i = t * n + j) : s = t ∧ i = j := by
  have e1 : (s * n + i) / n = s := by rw [Nat.mul_comm, Nat.mul_add_div (by omega), Nat.div_eq_of_lt hi]; omega
  have e2 : (t * n + j) / n = t := by rw [Nat.mul_comm, Nat.mul_add_div (by omega), Nat.div_eq_of_lt hj]; omega
  have : s = t := by rw [← e1, ← e2, h]
  subst this
  exact ⟨rfl, by omega⟩
theorem cell_lt {n s i m : Nat} (hs : s < m) (hi : i < n) : s * n + i < n * m := by
  have h1 : (s + 1) * n ≤ m * n := Nat.mul_le_mul_right n (by omega)
  rw [Nat.succ_mul] at h1
  rw [Nat.mul_comm n m]
  omega
theorem cell_wrap {n s i : Nat} (hs : s < 64) (hn : n < 7) (hi : i < 6) : wrap64 (wrap64 ((s : Int) * (n : Int)) + (i : Int)) = ((s * n + i : Nat) : Int) := by
  have h : s * n ≤ 63 * 6 := Nat.mul_le_mul (by omega) (by omega)
  have e : (s : Int) * (n : Int) = ((s * n : Nat) : Int) := by rw [Int.natCast_mul]
  rw [e, wrap_id (x := ((s * n : Nat) : Int)) (by omega) (by omega), wrap_id (by omega) (by omega), Int.natCast_add]
structure Tab (n : Nat) (G : Nat → Nat → Int → Prop) (T : List Int) : Prop where
  len : T.length = n * 2 ^ n
  good : ∀ s i : Nat, s < 2 ^ n → i < n → 0 ≤ rd T ((s * n + i : Nat) : Int) → G s i (rd T ((s * n + i : Nat) : Int))
theorem Tab.put {n : Nat} {G : Nat → Nat → Int → Prop} {T : List Int} (B : Tab n G T) {s j : Nat} {v : Int} (hs : s < 2 ^ n) (hj : j < n) (hv : G s j v) : Tab n G (T.set (s * n + j) v) := by
  have hlt := cell_lt hs hj
  refine ⟨by rw [List.length_set]; exact B.len, fun t i ht hi h => ?_⟩
  rw [rd_set (by rw [B.len]; exact hlt)] at h ⊢
  by_cases e : t * n + i = s * n + j
  · obtain ⟨rfl, rfl⟩ := cell_inj hi hj e
    rw [if_pos rfl]
    exact hv
  · rw [if_neg e] at h ⊢
    exact B.good t i ht hi h
/-- What the table is about. -/
structure Dp (n : Nat) (X : List (List Int)) (G : Nat → Nat → Int → Prop) (opt : Int) (conn : Prop) : Prop where
  n1 : 1 ≤ n ∧ n < 7
  xlen : X.length = n
  row : ∀ i : Nat, i < n → (rd_L1 X (i : Int)).length = n
  bds : ∀ i j : Nat, i < n → j < n → -1 ≤ rd (rd_L1 X (i : Int)) (j : Int) ∧ rd (rd_L1 X (i : Int)) (j : Int) ≤ 6
  up : ∀ s i j : Nat, ∀ v : Int, s < 2 ^ n → i < n → j < n → memB s j = false → 0 ≤ v → G s i v → 0 ≤ rd (rd_L1 X (i : Int)) (j : Int) → G (s + 2 ^ j) j (v + rd (rd_L1 X (i : Int)) (j : Int))
  le : ∀ s i : Nat, ∀ v : Int, s < 2 ^ n → i < n → G s i v → v ≤ 6 * (s : Int)
  pos : conn → ∀ i j : Nat, i < n → j < n → 0 ≤ rd (rd_L1 X (i : Int)) (j : Int)
def Way (n : Nat) (D : Nat → Nat → Int) (opt : Int) (T : List Int) (s i : Nat) : Prop := s < 2 ^ n ∧ i < n ∧ 0 ≤ rd T ((s * n + i : Nat) : Int) ∧ rd T ((s * n + i : Nat) : Int) + roundV D n (2 ^ n - 1 - s) i ≤ opt
theorem Way.put {n : Nat} {D : Nat → Nat → Int} {opt : Int} {T : List Int} {s i : Nat} (W : Way n D opt T s i) (hl : T.length = n * 2 ^ n) {t j : Nat} {v : Int} (ht : t < 2 ^ n) (hj : j < n) (hv : 0 ≤ v) (hlow : 0 ≤ rd T ((t * n + j : Nat) : Int) → v ≤ rd T ((t * n + j : Nat) : Int)) : Way n D opt (T.set (t * n + j) v) s i := by
  obtain ⟨h1, h2, h3, h4⟩ := W
  have hlt := cell_lt ht hj
  refine ⟨h1, h2, ?_⟩
  rw [rd_set (by rw [hl]; exact hlt)]
  by_cases e : s * n + i = t * n + j
  · rw [if_pos e]
    obtain ⟨rfl, rfl⟩ := cell_inj h2 hj e
    have := hlow h3
    exact ⟨hv, by omega⟩
  · rw [if_neg e]
    exact ⟨h3, h4⟩
abbrev dOf (X : List (List Int)) : Nat → Nat → Int := fun i j => rd (rd_L1 X (i : Int)) (j : Int)
def Open (n : Nat) (X : List (List Int)) (opt : Int) (T : List Int) (t i : Nat) : Prop := ∃ s q : Nat, Way n (dOf X) opt T s q ∧ (s = 2 ^ n - 1 ∨ t < s ∨ (s = t ∧ i ≤ q))
theorem dp_l4 {n : Nat} {X : List (List Int)} {G : Nat → Nat → Int → Prop} {opt : Int} {conn : Prop} (K : Dp n X G opt conn) (t i : Nat) (v : Int) (ht : t < 2 ^ n) (hi : i < n) (hv : 0 ≤ v) (hg : G t i v) (R : Int × Int)
    (hR : ∀ T, Tab n G T → (conn → Open n X opt T t (i + 1)) → Ev (fun k => spec_ShortestRound.l3 k (n : Int) T X (t : Int) ((i + 1 : Nat) : Int)) R) :
    ∀ d j : Nat, j + d = n → ∀ T, Tab n G T → (conn → Open n X opt T t (i + 1) ∨ (∃ q, j ≤ q ∧ q < n ∧ memB t q = false ∧ v + dOf X i q + roundV (dOf X) n (2 ^ n - 1 - (t + 2 ^ q)) q ≤ opt)) →
    Ev (fun k => spec_ShortestRound.l4 k (n : Int) T X (t : Int) (i : Int) v (j : Int)) R := by
  have h64 := two_le n K.n1.2
  have hn := K.n1
  have hle := K.le t i v ht hi hg
  intro d
  induction d with
  | zero =>
    intro j hj T B hQ
    refine Ev.step (fun k => by rw [spec_ShortestRound.l4]) ?_
    rw [wrap_succ (n := i) (by omega)]
    refine ev_neg (by omega) (hR T B fun hc => ?_)
    rcases hQ hc with h | ⟨q, h1, h2, _⟩
    · exact h
    · exact absurd h1 (by omega)
  | succ d ih =>
    intro j hj T B hQ
    have hrow := K.row i hi
    have hD := K.bds i j hi (by omega)
    have hx := K.xlen
    have hm := memB_and t (by omega) j (by omega)
    have hs := memB_shl j (by omega)
    refine Ev.step (fun k => by rw [spec_ShortestRound.l4]) ?_
    rw [wrap_succ (n := j) (by omega), hm.1]
    refine ev_pos (by omega) (ev_pos hs.2.1 ?_)
    cases hmj : memB t j with
    | true =>
      refine ev_neg (by simp) (ih (j + 1) (by omega) T B fun hc => ?_)
      rcases hQ hc with h | ⟨q, h1, h2, h3, h4⟩
      · exact Or.inl h
      · refine Or.inr ⟨q, ?_, h2, h3, h4⟩
        rcases Nat.lt_or_eq_of_le h1 with h | h
        · omega
        · subst h; rw [hmj] at h3; exact absurd h3 (by simp)
    | false =>
      rw [memB_or t (by omega) j (by omega) hmj]
      refine ev_pos rfl (ev_pos (by omega) (ev_pos (by omega) (ev_pos (by omega) (ev_pos (by omega) ?_))))
      have hlt2 := memB_lt n hn.2 t (by omega) j (by omega) ⟨ht, by omega, hmj⟩
      have hcl := cell_lt hlt2 (show j < n by omega)
      have hlen := B.len
      have hP := two_pos j
      rw [cell_wrap (s := t + 2 ^ j) (by omega) hn.2 (by omega), Int.toNat_natCast]
      by_cases c0 : rd (rd_L1 X (i : Int)) (j : Int) ≥ 0
      · refine ev_pos c0 (ev_pos (by omega) (ev_pos (by rw [hlen]; omega) ?_))
        rw [wrap_id (x := v + rd (rd_L1 X (i : Int)) (j : Int)) (by omega) (by omega)]
        have hG := K.up t i j v ht hi (by omega) hmj hv hg c0
        have hput := B.put (v := v + rd (rd_L1 X (i : Int)) (j : Int)) hlt2 (show j < n by omega) hG
        have hopen : (0 ≤ rd T (((t + 2 ^ j) * n + j : Nat) : Int) → v + rd (rd_L1 X (i : Int)) (j : Int) ≤ rd T (((t + 2 ^ j) * n + j : Nat) : Int)) → conn → Open n X opt (T.set ((t + 2 ^ j) * n + j) (v + rd (rd_L1 X (i : Int)) (j : Int))) t (i + 1) ∨ (∃ q, j + 1 ≤ q ∧ q < n ∧ memB t q = false ∧ v + dOf X i q + roundV (dOf X) n (2 ^ n - 1 - (t + 2 ^ q)) q ≤ opt) := by
          intro hlow hc
          rcases hQ hc with ⟨s, q, hW, h⟩ | ⟨q, h1, h2, h3, h4⟩
          · exact Or.inl ⟨s, q, hW.put hlen hlt2 (by omega) (by omega) hlow, h⟩
          · by_cases e : q = j
            · subst e
              refine Or.inl ⟨t + 2 ^ q, q, ⟨hlt2, h2, ?_⟩, Or.inr (Or.inl (by omega))⟩
              rw [rd_set (by rw [hlen]; exact hcl), if_pos rfl]
              exact ⟨by omega, h4⟩
            · exact Or.inr ⟨q, by omega, h2, h3, h4⟩
        by_cases c1 : rd T (((t + 2 ^ j) * n + j : Nat) : Int) < 0
        · exact ev_pos c1 (ih (j + 1) (by omega) _ hput (hopen fun h => absurd h (by omega)))
        · refine ev_neg c1 ?_
          by_cases c2 : v + rd (rd_L1 X (i : Int)) (j : Int) < rd T (((t + 2 ^ j) * n + j : Nat) : Int)
          · exact ev_pos c2 (ih (j + 1) (by omega) _ hput (hopen fun h => by omega))
          · refine ev_neg c2 (ih (j + 1) (by omega) T B fun hc => ?_)
            rcases hQ hc with h | ⟨q, h1, h2, h3, h4⟩
            · exact Or.inl h
            · by_cases e : q = j
              · subst e
                refine Or.inl ⟨t + 2 ^ q, q, ⟨hlt2, h2, by omega, ?_⟩, Or.inr (Or.inl (by omega))⟩
                have h4 : v + rd (rd_L1 X (i : Int)) (q : Int) + roundV (dOf X) n (2 ^ n - 1 - (t + 2 ^ q)) q ≤ opt := h4
                omega
              · exact Or.inr ⟨q, by omega, h2, h3, h4⟩
      · refine ev_neg c0 (ih (j + 1) (by omega) T B fun hc => ?_)
        exact absurd (K.pos hc i j hi (by omega)) c0
theorem dp_l3 {n : Nat} {X : List (List Int)} {G : Nat → Nat → Int → Prop} {opt : Int} {conn : Prop} (K : Dp n X G opt conn) (t : Nat) (ht : t < 2 ^ n) (R : Int × Int)
    (hR : ∀ T, Tab n G T → (conn → Open n X opt T (t + 1) 0) → Ev (fun k => spec_ShortestRound.l2 k (n : Int) T X ((t + 1 : Nat) : Int)) R) :
    ∀ d i : Nat, i + d = n → ∀ T, Tab n G T → (conn → Open n X opt T t i) → Ev (fun k => spec_ShortestRound.l3 k (n : Int) T X (t : Int) (i : Int)) R := by
  have h64 := two_le n K.n1.2
  have hn := K.n1
  intro d
  induction d with
  | zero =>
    intro i hi T B hQ
    refine Ev.step (fun k => by rw [spec_ShortestRound.l3]) ?_
    rw [wrap_succ (n := t) (by omega)]
    refine ev_neg (by omega) (hR T B fun hc => ?_)
    obtain ⟨s, q, hW, h⟩ := hQ hc
    have := hW.2.1
    exact ⟨s, q, hW, by omega⟩
  | succ d ih =>
    intro i hi T B hQ
    have hlen := B.len
    have hcl := cell_lt ht (show i < n by omega)
    refine Ev.step (fun k => by rw [spec_ShortestRound.l3]) ?_
    rw [cell_wrap (s := t) (by omega) hn.2 (by omega), wrap_succ (n := i) (by omega)]
    refine ev_pos (by omega) (ev_pos (by omega) (ev_pos (by rw [hlen]; omega) ?_))
    by_cases c : rd T ((t * n + i : Nat) : Int) < 0
    · refine ev_pos c (ih (i + 1) (by omega) T B fun hc => ?_)
      obtain ⟨s, q, hW, h⟩ := hQ hc
      refine ⟨s, q, hW, ?_⟩
      by_cases e : s = t ∧ q = i
      · obtain ⟨rfl, rfl⟩ := e
        exact absurd hW.2.2.1 (by omega)
      · omega
    · refine ev_neg c (dp_l4 K t i _ ht (by omega) (by omega) (B.good t i ht (by omega) (by omega)) R (fun T B hQ => ih (i + 1) (by omega) T B hQ) n 0 (by omega) T B fun hc => ?_)
      obtain ⟨s, q, hW, h⟩ := hQ hc
      by_cases e : s = t ∧ q = i
      · obtain ⟨rfl, rfl⟩ := e
        by_cases e2 : s = 2 ^ n - 1
        · exact Or.inl ⟨s, q, hW, Or.inl e2⟩
        · obtain ⟨_, _, _, hw⟩ := hW
          obtain ⟨j, hj, hm, hj2⟩ := (roundV_min (dOf X) n hn (fun i j hi hj => ⟨K.pos hc i j hi hj, (K.bds i j hi hj).2⟩) (2 ^ n - 1 - s) (by omega) (by omega) q (by omega)).2
          rw [memB_not n hn.2 s (by omega) j (by omega) ht hj] at hm
          refine Or.inr ⟨j, by omega, hj, by simpa using hm, ?_⟩
          rw [show 2 ^ n - 1 - (s + 2 ^ j) = 2 ^ n - 1 - s - 2 ^ j by omega]
          omega
      · exact Or.inl ⟨s, q, hW, by omega⟩
theorem dp_l5 {n : Nat} {X : List (List Int)} {G : Nat → Nat → Int → Prop} {opt : Int} {conn : Prop} (K : Dp n X G opt conn) (T : List Int) (B : Tab n G T)
    (h0 : ∀ i : Nat, i < n → 0 ≤ rd T (((2 ^ n - 1) * n + i : Nat) : Int) → 0 ≤ rd (rd_L1 X (i : Int)) 0) : ∀ d i : Nat, i + d = n → ∀ m : Int, -1 ≤ m → m ≤ 1000 →
    Ev (fun k => spec_ShortestRound.l5 k (n : Int) T X m (((2 ^ n - 1) * n : Nat) : Int) (i : Int))
      (if minJ (fun i => decide (0 ≤ rd T (((2 ^ n - 1) * n + i : Nat) : Int))) (fun i => rd T (((2 ^ n - 1) * n + i : Nat) : Int) + rd (rd_L1 X (i : Int)) 0) d i m < 0 then (0, 4) else (minJ (fun i => decide (0 ≤ rd T (((2 ^ n - 1) * n + i : Nat) : Int))) (fun i => rd T (((2 ^ n - 1) * n + i : Nat) : Int) + rd (rd_L1 X (i : Int)) 0) d i m, 0)) := by
  have h64 := two_le n K.n1.2
  have hn := K.n1
  have hP := two_pos n
  have hb : (2 ^ n - 1) * n ≤ 63 * 6 := Nat.mul_le_mul (by omega) (by omega)
  intro d
  induction d with
  | zero =>
    intro i hi m _ _
    refine Ev.step (fun k => by rw [spec_ShortestRound.l5]) ?_
    rw [minJ]
    refine ev_neg (by omega) ?_
    by_cases c : m < 0
    · rw [if_pos c]
      exact ev_is (by first | rfl | rw [if_pos c])
    · rw [if_neg c]
      exact ev_is (by first | rfl | rw [if_neg c])
  | succ d ih =>
    intro i hi m hm1 hm2
    have hlen := B.len
    have hx := K.xlen
    have hrow := K.row i (by omega)
    have hcl := cell_lt (show 2 ^ n - 1 < 2 ^ n by omega) (show i < n by omega)
    refine Ev.step (fun k => by rw [spec_ShortestRound.l5]) ?_
    rw [show wrap64 ((((2 ^ n - 1) * n : Nat) : Int) + (i : Int)) = (((2 ^ n - 1) * n + i : Nat) : Int) by rw [wrap_id (by omega) (by omega)]; omega, wrap_succ (n := i) (by omega), minJ]
    refine ev_pos (by omega) (ev_pos (by omega) (ev_pos (by rw [hlen]; omega) ?_))
    by_cases c : 0 ≤ rd T (((2 ^ n - 1) * n + i : Nat) : Int)
    · have h1 := K.le _ _ _ (show 2 ^ n - 1 < 2 ^ n by omega) (show i < n by omega) (B.good _ _ (show 2 ^ n - 1 < 2 ^ n by omega) (show i < n by omega) c)
      have h2 := K.bds i 0 (by omega) (by omega)
      have h3 : ((0 : Nat) : Int) = 0 := rfl
      rw [h3] at h2
      have h4 := h0 i (by omega) c
      rw [decide_eq_true c, if_pos rfl, wrap_id (x := rd T (((2 ^ n - 1) * n + i : Nat) : Int) + rd (rd_L1 X (i : Int)) 0) (by omega) (by omega)]
      refine ev_pos c ?_
      by_cases c1 : m < 0
      · rw [if_pos c1]
        exact ev_pos c1 (ev_pos (by omega) (ev_pos (by omega) (ev_pos (by omega) (ih (i + 1) (by omega) _ (by omega) (by omega)))))
      · rw [if_neg c1]
        refine ev_neg c1 (ev_pos (by omega) (ev_pos (by omega) (ev_pos (by omega) ?_)))
        by_cases c2 : rd T (((2 ^ n - 1) * n + i : Nat) : Int) + rd (rd_L1 X (i : Int)) 0 < m
        · rw [if_pos c2]
          exact ev_pos c2 (ih (i + 1) (by omega) _ (by omega) (by omega))
        · rw [if_neg c2]
          exact ev_neg c2 (ih (i + 1) (by omega) m hm1 hm2)
    · rw [decide_eq_false c, if_neg (show ¬ (false = true) by simp)]
      exact ev_neg c (ih (i + 1) (by omega) m hm1 hm2)
theorem dp_l2 {n : Nat} {X : List (List Int)} {G : Nat → Nat → Int → Prop} {opt : Int} {conn : Prop} (K : Dp n X G opt conn) (R : Int × Int)
    (hR : ∀ T, Tab n G T → (conn → Open n X opt T (2 ^ n) 0) → Ev (fun k => spec_ShortestRound.l5 k (n : Int) T X (-1) (((2 ^ n - 1) * n : Nat) : Int) 0) R) :
    ∀ d t : Nat, t + d = 2 ^ n → ∀ T, Tab n G T → (conn → Open n X opt T t 0) → Ev (fun k => spec_ShortestRound.l2 k (n : Int) T X (t : Int)) R := by
  have h64 := two_le n K.n1.2
  have hn := K.n1
  have hs := memB_shl n hn.2
  have hP := two_pos n
  intro d
  induction d with
  | zero =>
    intro t htd T B hQ
    obtain rfl : t = 2 ^ n := by omega
    refine Ev.step (fun k => by rw [spec_ShortestRound.l2]) ?_
    rw [hs.1]
    have e : wrap64 (wrap64 ((((2 ^ n : Nat) : Int)) - 1) * (n : Int)) = (((2 ^ n - 1) * n : Nat) : Int) := by
      rw [wrap_id (x := ((2 ^ n : Nat) : Int) - 1) (by omega) (by omega), show ((2 ^ n : Nat) : Int) - 1 = ((2 ^ n - 1 : Nat) : Int) by omega]
      have hb : (2 ^ n - 1) * n ≤ 63 * 6 := Nat.mul_le_mul (by omega) (by omega)
      rw [← Int.natCast_mul, wrap_id (by omega) (by omega)]
    rw [e]
    exact ev_pos hs.2.1 (ev_neg (by omega) (hR T B hQ))
  | succ d ih =>
    intro t htd T B hQ
    refine Ev.step (fun k => by rw [spec_ShortestRound.l2]) ?_
    rw [hs.1]
    exact ev_pos hs.2.1 (ev_pos (by omega) (dp_l3 K t (by omega) R (fun T B hQ => ih (t + 1) (by omega) T B hQ) n 0 (by omega) T B hQ))
end Go.Proofs.Ythafpimegaomlaa.Pure
end
section
namespace Go.Proofs.Ythafpimegaomlaa.Pure
open Go.RowKit Go.Proofs.Ythafpimegaomlaa.P Go.Proofs.YthafpimegaomlaaW.PrintWords Go.Proofs.YthafpimegaomlaaW.PrintLast Go.Proofs.YthafpimegaomlaaW.PrintMore
set_option linter.unusedVariables false
set_option linter.unusedSimpArgs false
def rowsX (a : Nat) (b : Int) (m : Nat) : List (List Int) := (List.range' 0 m).map (fun i => dist a b i)
theorem rowsX_succ (a : Nat) (b : Int) (m : Nat) : rowsX a b (m + 1) = rowsX a b m ++ [dist a b m] := by simp [rowsX, List.range'_1_concat]
theorem rowsX_length (a : Nat) (b : Int) (m : Nat) : (rowsX a b m).length = m := by simp [rowsX]
theorem rowsX_rd (a : Nat) (b : Int) (m i : Nat) (hi : i < m) : rd_L1 (rowsX a b m) (i : Int) = dist a b i := by
  unfold rd_L1
  rw [Int.toNat_natCast]
  simp [List.getD, rowsX, hi]
def distD (a : Nat) (b : Int) : Nat → Nat → Int := fun i j => rd (dist a b i) (j : Int)
def roundR (a b : Int) : Int × Int :=
  if isGround a b = true then (if (dist a.toNat b 0).contains (-1) = true then (0, 4) else (roundV (distD a.toNat b) a.toNat (2 ^ a.toNat - 2) 0, 0)) else (0, 1)
theorem dist_all {a : Nat} {b : Int} (ha : 0 < a) (h : (dist a b 0).contains (-1) = false) (q : Nat) (hq : q < a) : 0 ≤ rd (dist a b 0) (q : Int) := by
  have h1 := dist_bds (b := b) ha q hq
  have hl := dist_length (a := a) (b := b) 0
  have : rd (dist a b 0) (q : Int) ≠ -1 := by
    intro e
    rw [rd_nat (by omega)] at e
    have hm : (-1 : Int) ∈ dist a b 0 := by rw [← e]; exact List.getElem_mem _
    rw [List.contains_iff_mem.2 hm] at h
    exact absurd h (by simp)
  omega
theorem dist_not {a : Nat} {b : Int} (h : (dist a b 0).contains (-1) = true) : ∃ q, q < a ∧ rd (dist a b 0) (q : Int) = -1 := by
  obtain ⟨q, hq, e⟩ := List.getElem_of_mem (List.contains_iff_mem.1 h)
  exact ⟨q, by rw [dist_length] at hq; exact hq, by rw [rd_nat hq]; exact e⟩
theorem ShortestRound_impl (a b : Int) : Ev (fun k => impl_ShortestRound.f k a b) (roundR a b) := by
  unfold impl_ShortestRound.f roundR
  refine ev_fix (groundCode_f a b _) ?_
  cases h : isGround a b with
  | false => exact ev_neg (by simp) (ev_now _)
  | true =>
    have hg := isGround_lt h
    obtain ⟨n, rfl⟩ : ∃ n : Nat, a = n := ⟨a.toNat, by omega⟩
    rw [if_pos rfl, if_pos rfl, Int.toNat_natCast]
    refine ev_pos rfl ?_
    refine ev_bind (distances_ev n b (by omega) 0 (by omega)) ?_
    refine ev_bind (Contains_ev _ _ (by rw [dist_length]; omega)) ?_
    cases hc : (dist n b 0).contains (-1) with
    | true =>
      rw [if_pos rfl]
      exact ev_pos rfl (ev_now _)
    | false =>
      have hs := memB_shl n (by omega)
      have h64 := two_le n (by omega)
      have h2 : 2 ≤ 2 ^ n := by
        have := Nat.pow_le_pow_right (show 0 < 2 by omega) (show 1 ≤ n by omega)
        omega
      rw [if_neg (show ¬ (false = true) by simp)]
      refine ev_neg (by simp) (ev_pos (by omega) ?_)
      rw [hs.2.2.1, wrap_id (by omega) (by omega), show ((2 ^ n : Nat) : Int) - 2 = ((2 ^ n - 2 : Nat) : Int) by omega]
      refine ev_bind (groundTour_ev n b (by omega) (fun i j hi hj => ⟨dist_conn (by omega) (fun q hq => dist_all (by omega) hc q hq) i j hi hj, by have := (dist_bds (b := b) hi j hj).2; omega⟩) (2 ^ n - 2) (by omega) 0 (by omega)) ?_
      exact ev_now _
theorem round_l0 (n : Nat) (b : Int) (hn : 1 ≤ n ∧ n < 7) (R : Int × Int) (hR : Ev (fun k => spec_ShortestRound.l1 k (n : Int) ((List.replicate (n * 2 ^ n) (-1)).set n 0) [] 0 (n : Int) b) R) : ∀ d j : Nat, j + d = n * 2 ^ n →
    Ev (fun k => spec_ShortestRound.l0 k (n : Int) (List.replicate j (-1) ++ List.replicate d 0) ((n * 2 ^ n : Nat) : Int) (j : Int) (n : Int) b) R := by
  have h64 := two_le n hn.2
  have hb : n * 2 ^ n ≤ 6 * 64 := Nat.mul_le_mul (by omega) h64
  have h1 : n * 2 ≤ n * 2 ^ n := Nat.mul_le_mul_left n (by
    have := Nat.pow_le_pow_right (show 0 < 2 by omega) hn.1
    omega)
  intro d
  induction d with
  | zero =>
    intro j hj
    obtain rfl : j = n * 2 ^ n := by omega
    refine Ev.step (fun k => by rw [spec_ShortestRound.l0]) ?_
    rw [List.replicate_zero, List.append_nil, Int.toNat_natCast]
    exact ev_neg (by omega) (ev_pos (by omega) (ev_pos (by rw [List.length_replicate]; omega) hR))
  | succ d ih =>
    intro j hj
    refine Ev.step (fun k => by rw [spec_ShortestRound.l0]) ?_
    rw [wrap_succ (by omega), Int.toNat_natCast]
    refine ev_pos (by omega) (ev_pos (by omega) (ev_pos (by rw [List.length_append, List.length_replicate, List.length_replicate]; omega) ?_))
    have e : (List.replicate j (-1 : Int) ++ List.replicate (d + 1) 0).set j (-1) = List.replicate (j + 1) (-1) ++ List.replicate d 0 := by
      rw [List.set_append_right _ _ (by simp), List.length_replicate, Nat.sub_self, List.replicate_succ, List.set_cons_zero, List.replicate_succ', List.append_assoc]
      rfl
    rw [e]
    exact ih (j + 1) (by omega)
theorem round_l1 (n : Nat) (b : Int) (hn : 1 ≤ n ∧ n < 7) (T : List Int) (R : Int × Int) (hR : Ev (fun k => spec_ShortestRound.l2 k (n : Int) T (rowsX n b n) 1) R) : ∀ d j : Nat, j + d = n →
    Ev (fun k => spec_ShortestRound.l1 k (n : Int) T (rowsX n b j) (j : Int) (n : Int) b) R := by
  intro d
  induction d with
  | zero =>
    intro j hj
    obtain rfl : j = n := by omega
    refine Ev.step (fun k => by rw [spec_ShortestRound.l1]) ?_
    exact ev_neg (by omega) hR
  | succ d ih =>
    intro j hj
    refine Ev.step (fun k => by rw [spec_ShortestRound.l1]) ?_
    refine ev_pos (by omega) (ev_bind (l09Distances_ev n b (by omega) j (by omega)) ?_)
    rw [wrap_succ (by omega)]
    refine ev_pos (by rw [rowsX_length]; omega) ?_
    rw [← rowsX_succ]
    exact ih (j + 1) (by omega)
theorem rd_T0 (n : Nat) (hn : 1 ≤ n ∧ n < 7) (s i : Nat) (hs : s < 2 ^ n) (hi : i < n) : rd ((List.replicate (n * 2 ^ n) (-1 : Int)).set n 0) ((s * n + i : Nat) : Int) = if s = 1 ∧ i = 0 then 0 else -1 := by
  have hlt := cell_lt hs hi
  have h2 : 2 ≤ 2 ^ n := by
    have := Nat.pow_le_pow_right (show 0 < 2 by omega) (show 1 ≤ n by omega)
    omega
  have h1 := cell_lt (show 1 < 2 ^ n by omega) (show 0 < n by omega)
  rw [rd_set (by rw [List.length_replicate]; omega), rd_nat (by rw [List.length_replicate]; exact hlt), List.getElem_replicate]
  by_cases e : s * n + i = n
  · obtain ⟨rfl, rfl⟩ := cell_inj (n := n) (s := s) (i := i) (t := 1) (j := 0) hi (by omega) (by rw [e, Nat.one_mul]; rfl)
    rw [if_pos e, if_pos ⟨rfl, rfl⟩]
  · rw [if_neg e, if_neg]
    rintro ⟨rfl, rfl⟩
    omega
theorem ShortestRound_table (n : Nat) (b : Int) (hn : 1 ≤ n ∧ n < 7) : Ev (fun k => spec_ShortestRound.l2 k (n : Int) ((List.replicate (n * 2 ^ n) (-1)).set n 0) (rowsX n b n) 1) (if (dist n b 0).contains (-1) = true then (0, 4) else (roundV (distD n b) n (2 ^ n - 2) 0, 0)) := by
  have h64 := two_le n hn.2
  have h2 : 2 ≤ 2 ^ n := by
    have := Nat.pow_le_pow_right (show 0 < 2 by omega) (show 1 ≤ n by omega)
    omega
  have hX : ∀ i : Nat, i < n → rd_L1 (rowsX n b n) (i : Int) = dist n b i := fun i hi => rowsX_rd n b n i hi
  have hbds : ∀ i j : Nat, i < n → j < n → -1 ≤ rd (rd_L1 (rowsX n b n) (i : Int)) (j : Int) ∧ rd (rd_L1 (rowsX n b n) (i : Int)) (j : Int) ≤ 6 := by
    intro i j hi hj
    rw [hX i hi]
    have := dist_bds (b := b) hi j hj
    omega
  have hrow : ∀ i : Nat, i < n → (rd_L1 (rowsX n b n) (i : Int)).length = n := by
    intro i hi
    rw [hX i hi, dist_length]
  cases hc : (dist n b 0).contains (-1) with
  | true =>
    obtain ⟨z, hz, ez⟩ := dist_not hc
    rw [if_pos rfl]
    have K : Dp n (rowsX n b n) (fun s i v => v ≤ 6 * (s : Int) ∧ (∀ j : Nat, j < n → memB s j = true → 0 ≤ rd (dist n b 0) (j : Int)) ∧ 0 ≤ rd (dist n b 0) (i : Int)) 0 False := by
      refine ⟨hn, rowsX_length n b n, hrow, hbds, ?_, fun s i v _ _ h => h.1, fun h => h.elim⟩
      rintro s i j v hs hi hj hm hv ⟨g1, g2, g3⟩ hd
      have hb := (hbds i j hi hj).2
      have hp := two_pos j
      rw [hX i hi] at hd hb ⊢
      have h3 := dist_trans (show 0 < n by omega) hi hj g3 hd
      refine ⟨by omega, fun q hq hm2 => ?_, h3⟩
      rw [memB_add s (by omega) j (by omega) q (by omega) hm] at hm2
      by_cases e : q = j
      · subst e; exact h3
      · rw [decide_eq_false e, Bool.or_false] at hm2
        exact g2 q hq hm2
    refine dp_l2 K _ (fun T B _ => ?_) (2 ^ n - 1) 1 (by omega) _ ⟨by rw [List.length_set, List.length_replicate], fun s i hs hi h => ?_⟩ (fun h => h.elim)
    · have hno : ∀ i : Nat, i < n → ¬ 0 ≤ rd T (((2 ^ n - 1) * n + i : Nat) : Int) := by
        intro i hi h
        have := (B.good (2 ^ n - 1) i (by omega) hi h).2.1 z hz (by
          have := memB_not n hn.2 0 (by omega) z (by omega) (by omega) hz
          rw [Nat.sub_zero] at this
          rw [this]
          simp [memB])
        omega
      have h5 := dp_l5 K T B (fun i hi h => absurd h (hno i hi)) n 0 (by omega) (-1) (by omega) (by omega)
      rw [minJ_none n 0 (-1) (fun q _ hq => decide_eq_false (hno q (by omega)))] at h5
      exact h5
    · rw [rd_T0 n hn s i hs hi] at h ⊢
      by_cases e : s = 1 ∧ i = 0
      · obtain ⟨rfl, rfl⟩ := e
        rw [if_pos ⟨rfl, rfl⟩]
        refine ⟨by omega, fun j hj hm => ?_, dist_self (by omega)⟩
        have : j = 0 := by
          by_cases e : j = 0
          · exact e
          · have := memB_le hm
            have := Nat.pow_le_pow_right (show 0 < 2 by omega) (show 1 ≤ j by omega)
            omega
        subst this
        exact dist_self (by omega)
      · rw [if_neg e] at h
        omega
  | false =>
    rw [if_neg (show ¬ (false = true) by simp)]
    have hpos : ∀ i j : Nat, i < n → j < n → 0 ≤ rd (dist n b i) (j : Int) := fun i j hi hj => dist_conn (by omega) (fun q hq => dist_all (by omega) hc q hq) i j hi hj
    have hDD : ∀ i j : Nat, i < n → j < n → 0 ≤ dOf (rowsX n b n) i j ∧ dOf (rowsX n b n) i j ≤ 6 := by
      intro i j hi hj
      refine ⟨?_, (hbds i j hi hj).2⟩
      show 0 ≤ rd (rd_L1 (rowsX n b n) (i : Int)) (j : Int)
      rw [hX i hi]; exact hpos i j hi hj
    have hV : ∀ left : Nat, left < 2 ^ n → ∀ i, i < n → roundV (distD n b) n left i = roundV (dOf (rowsX n b n)) n left i := by
      intro left
      induction left using Nat.strongRecOn with
      | _ left ih =>
        intro hl i hi
        have e1 : ∀ i j : Nat, i < n → distD n b i j = dOf (rowsX n b n) i j := by
          intro i j hi
          show rd (dist n b i) (j : Int) = rd (rd_L1 (rowsX n b n) (i : Int)) (j : Int)
          rw [hX i hi]
        by_cases h0 : left = 0
        · subst h0; rw [roundV_zero, roundV_zero]; exact e1 i 0 hi
        · have hD1 : ∀ i j : Nat, i < n → j < n → 0 ≤ distD n b i j ∧ distD n b i j ≤ 6 := fun i j hi hj => by rw [e1 i j hi]; exact hDD i j hi hj
          obtain ⟨p1, q1, hq1, hm1, r1⟩ := roundV_min (distD n b) n hn hD1 left hl h0 i hi
          obtain ⟨p2, q2, hq2, hm2, r2⟩ := roundV_min (dOf (rowsX n b n)) n hn hDD left hl h0 i hi
          have a1 := memB_le hm1; have a2 := memB_le hm2; have b1 := two_pos q1; have b2 := two_pos q2
          have c1 := p1 q2 hq2 hm2
          have c2 := p2 q1 hq1 hm1
          rw [ih (left - 2 ^ q2) (by omega) (by omega) q2 hq2, e1 i q2 hi] at c1
          rw [ih (left - 2 ^ q1) (by omega) (by omega) q1 hq1, e1 i q1 hi] at r1
          omega
    rw [hV (2 ^ n - 2) (by omega) 0 (by omega)]
    have hopt := roundV_bds (dOf (rowsX n b n)) n hn hDD (2 ^ n - 2) (by omega) 0 (by omega)
    have K : Dp n (rowsX n b n) (fun s i v => v ≤ 6 * (s : Int) ∧ roundV (dOf (rowsX n b n)) n (2 ^ n - 2) 0 ≤ v + roundV (dOf (rowsX n b n)) n (2 ^ n - 1 - s) i) (roundV (dOf (rowsX n b n)) n (2 ^ n - 2) 0) True := by
      refine ⟨hn, rowsX_length n b n, hrow, hbds, ?_, fun s i v _ _ h => h.1, fun _ i j hi hj => (hDD i j hi hj).1⟩
      rintro s i j v hs hi hj hm hv ⟨g1, g2⟩ hd
      have hb := (hbds i j hi hj).2
      have hp := two_pos j
      have hmem : memB (2 ^ n - 1 - s) j = true := by rw [memB_not n hn.2 s (by omega) j (by omega) hs hj, hm]; rfl
      have hle := memB_le hmem
      have := (roundV_min (dOf (rowsX n b n)) n hn hDD (2 ^ n - 1 - s) (by omega) (by omega) i hi).1 j hj hmem
      have e : dOf (rowsX n b n) i j = rd (rd_L1 (rowsX n b n) (i : Int)) (j : Int) := rfl
      rw [e] at this
      refine ⟨by omega, ?_⟩
      rw [show 2 ^ n - 1 - (s + 2 ^ j) = 2 ^ n - 1 - s - 2 ^ j by omega]
      omega
    refine dp_l2 K _ (fun T B hQ => ?_) (2 ^ n - 1) 1 (by omega) _ ⟨by rw [List.length_set, List.length_replicate], fun s i hs hi h => ?_⟩ (fun _ => ?_)
    · have h5 := dp_l5 K T B (fun i hi h => (hDD i 0 hi (by omega)).1) n 0 (by omega) (-1) (by omega) (by omega)
      obtain ⟨p1, p2, p3⟩ := minJ_props (p := fun i => decide (0 ≤ rd T (((2 ^ n - 1) * n + i : Nat) : Int))) (c := fun i => rd T (((2 ^ n - 1) * n + i : Nat) : Int) + rd (rd_L1 (rowsX n b n) (i : Int)) 0) n 0 (-1) (fun q _ hq hp => by
        have h1 := of_decide_eq_true hp
        have h2 : 0 ≤ rd (rd_L1 (rowsX n b n) (q : Int)) 0 := (hDD q 0 (by omega) (by omega)).1
        show 0 ≤ rd T (((2 ^ n - 1) * n + q : Nat) : Int) + rd (rd_L1 (rowsX n b n) (q : Int)) 0
        omega)
      generalize minJ (fun i => decide (0 ≤ rd T (((2 ^ n - 1) * n + i : Nat) : Int))) (fun i => rd T (((2 ^ n - 1) * n + i : Nat) : Int) + rd (rd_L1 (rowsX n b n) (i : Int)) 0) n 0 (-1) = r at h5 p1 p2 p3
      have hlast : ∀ q : Nat, roundV (dOf (rowsX n b n)) n (2 ^ n - 1 - (2 ^ n - 1)) q = rd (rd_L1 (rowsX n b n) (q : Int)) 0 := by
        intro q
        rw [Nat.sub_self, roundV_zero]
        rfl
      obtain ⟨s, q, ⟨w1, w2, w3, w4⟩, hs⟩ := hQ trivial
      obtain rfl : s = 2 ^ n - 1 := by omega
      rw [hlast q] at w4
      obtain ⟨u1, u2⟩ := p2 q (by omega) (by omega) (decide_eq_true w3)
      have u2 : r ≤ rd T (((2 ^ n - 1) * n + q : Nat) : Int) + rd (rd_L1 (rowsX n b n) (q : Int)) 0 := u2
      have hr : r = roundV (dOf (rowsX n b n)) n (2 ^ n - 2) 0 := by
        rcases p3 with h | ⟨i, _, hi, hp, h⟩
        · omega
        · have hp := of_decide_eq_true hp
          have h : r = rd T (((2 ^ n - 1) * n + i : Nat) : Int) + rd (rd_L1 (rowsX n b n) (i : Int)) 0 := h
          have hg := (B.good (2 ^ n - 1) i (by omega) (by omega) hp).2
          rw [hlast i] at hg
          omega
      rw [if_neg (by omega), hr] at h5
      exact h5
    · rw [rd_T0 n hn s i hs hi] at h ⊢
      by_cases e : s = 1 ∧ i = 0
      · obtain ⟨rfl, rfl⟩ := e
        rw [if_pos ⟨rfl, rfl⟩]
        refine ⟨by omega, ?_⟩
        rw [show 2 ^ n - 1 - 1 = 2 ^ n - 2 by omega]
        omega
      · rw [if_neg e] at h
        omega
    · refine ⟨1, 0, ⟨by omega, by omega, ?_⟩, Or.inr (Or.inr ⟨rfl, Nat.le_refl _⟩)⟩
      rw [rd_T0 n hn 1 0 (by omega) (by omega), if_pos ⟨rfl, rfl⟩, show 2 ^ n - 1 - 1 = 2 ^ n - 2 by omega]
      omega
theorem ShortestRound_spec (a b : Int) : Ev (fun k => spec_ShortestRound.f k a b) (roundR a b) := by
  unfold spec_ShortestRound.f roundR
  refine ev_fix (l09Is_f a b) ?_
  cases h : isGround a b with
  | false => exact ev_neg (by simp) (ev_now _)
  | true =>
    have hg := isGround_lt h
    obtain ⟨n, rfl⟩ : ∃ n : Nat, a = n := ⟨a.toNat, by omega⟩
    have hs := memB_shl n (by omega)
    have hb : n * 2 ^ n ≤ 6 * 64 := Nat.mul_le_mul (by omega) (two_le n (by omega))
    rw [if_pos rfl, Int.toNat_natCast, hs.2.2.2, Int.toNat_natCast]
    refine ev_pos rfl (ev_pos hs.2.1 (ev_pos (by omega) (ev_pos (by omega) ?_)))
    refine ev_fix (a := List.replicate (n * 2 ^ n) 0) rfl ?_
    rw [List.length_replicate]
    have h0 := round_l0 n b (by omega) _ (round_l1 n b (by omega) _ _ (ShortestRound_table n b (by omega)) n 0 (by omega)) (n * 2 ^ n) 0 (by omega)
    exact h0
theorem FnExactShortestRound : laws_FnExactShortestRound.Pure := by
  intro a b _ _
  refine ev_rounds (g := fun k => laws_FnExactShortestRound.f k a b) ?_
  unfold laws_FnExactShortestRound.f
  refine ev_fix (show laws_toGround.f a b = some (a, b) from rfl) ?_
  refine ev_bind (ShortestRound_spec a b) ?_
  refine ev_fix (show laws_toGround.f a b = some (a, b) from rfl) ?_
  refine ev_bind (ShortestRound_impl a b) ?_
  exact ev_pos rfl (ev_pos rfl (ev_now _))
end Go.Proofs.Ythafpimegaomlaa.Pure
end
section
namespace Go.Proofs.Ythafpimegaomlaa.fnExactShortestRound
open Go.ChangeShapes Go.WideShapes Go.ChangeAt Go.RowKit Go.Deep Go.Proofs.Ythafpimegaomlaa.P
open Go.ChangeMaps (open_string shut_string)
set_option linter.unusedVariables false
theorem own : ownKnob Try.prog.godebug = none := by kernel_rfl
theorem laidOut : laidOutB Try.prog = true := by kernel_rfl
set_option maxRecDepth 100000 in
theorem lifted (os : Os) (started : os.Started) (H : Type) (enc : TypeId × Value → H) :
    ReturnsInHanded {} Try.checked os 3 .any (Rows.fnExactShortestRoundSpec.pre6 enc Try.prog Try.f3 Rows.fnExactShortestRoundRow.domain false) (Rows.fnExactShortestRoundSpec.post enc Try.prog Try.f3 false true false false) := by
  refine returnsInHanded_of_change_sized (C := Try.checked) own started (by kernel_rfl) Try.func3
    (ChangeSpec.witness6 (enc := enc) (C := Try.checked) false ⟨#[], #[.agg #[.int .i64 0, .int .i64 0]], []⟩ 8 (by kernel_rfl) (by kernel_rfl) (by kernel_rfl) (by kernel_rfl)) ?_
  intro W base args ds gs before hval0 hW hcnd hsz0 _
  have hsz : (DataW.weightsEach Try.prog (Try.f3.params.toList ++ Rows.fnExactShortestRoundSpec.plain.varTypes Try.prog) (ds ++ gs)).all (· ≤ reachBytes) = true := hsz0
  have hval : ∀ (j : Nat) t v, Try.f3.params[j]? = some t → args[j]? = some v → Value.okWide Try.prog W .any base t v := hval0
  have hW' := hW
  obtain ⟨p, q, hA0, hV, rfl, hfz, hnd⟩ := hW
  have hA : DataW.TrodAll enc Try.prog W 0 (fun _ => true) true Try.f3.params.toList args.toList ds p := hA0
  rw [Try.params3] at hA hval hsz
  obtain ⟨v0, vs0, d0, ds0, p0, q0, hargs, rfl, rfl, h0, r0⟩ := trodAll_cons hA
  obtain ⟨rfl, rfl, rfl⟩ := trodAll_nil r0
  obtain rfl : args = #[v0] := by cases args; simp_all
  obtain ⟨rfl, rfl⟩ := trodVars_none hV
  have k0 := h0
  have lt0 : ∀ x ∈ p0, x.block < W.heap.size := by obtain ⟨m, hm⟩ := k0; exact DataW.trod_lt m _ _ _ hm
  obtain ⟨v0_0, v0_1, y0_0, y0_1, n0, rfl, t0_0, t0_1⟩ := agg2 Try.underlying23 (by kernel_rfl) (by kernel_rfl) (hval 0 23 v0 rfl rfl) h0
  obtain ⟨a0_0, e0_0, w0_0⟩ := open_cell (opens_int Try.underlying2) t0_0
  obtain rfl := int_cell e0_0
  obtain ⟨a0_1, e0_1, w0_1⟩ := open_cell (opens_int Try.underlying2) t0_1
  obtain rfl := int_cell e0_1
  clear hA0 hval0 hsz0 hsz
  refine (P.laws_FnExactShortestRound.walk Pure.FnExactShortestRound a0_0 a0_1 W  w0_0 w0_1).mono fun e W' ⟨he, bel⟩ => ?_
  subst he
  exact ⟨_, rfl, _, _, _, [], _, [], hW', trodAll_mk1 (shut_bool Try.underlying4 _), (trodAll_cons_mk (Below.trod laidOut (by kernel_rfl) (of_decide_eq_true (by kernel_rfl)) k0 bel lt0) trodAll_mk0), rfl, bel.frame _, fun h => by cases h⟩
theorem over : Rows.fnExactShortestRoundRow.holds Try.pinned (OpenSpec.ofChange Rows.fnExactShortestRoundSpec) :=
  OpenClaim.holds_of_wide 3 Try.f3 rfl rfl rfl rfl rfl rfl rfl ⟨rfl, rfl, rfl, rfl, rfl⟩ rfl rfl rfl rfl rfl (by kernel_rfl) Try.func3 (by kernel_rfl)
    (of_decide_eq_true (by kernel_rfl)) (by unfold Func.isWrapper; first | (rw [if_pos (by decide +kernel)]; kernel_rfl) | (rw [if_neg (by decide +kernel)]; exact ⟨rfl, rfl⟩))
    (fun os started H enc _ => lifted os started H enc)
theorem proved : Rows.FnExactShortestRoundSaid := over
end Go.Proofs.Ythafpimegaomlaa.fnExactShortestRound
namespace Go.Proofs.Ythafpimegaomlaa
/-- The row, under a short name, for the claim. -/
theorem fnExactShortestRound_holds : Rows.FnExactShortestRoundSaid := fnExactShortestRound.proved
end Go.Proofs.Ythafpimegaomlaa
end
