/- The program's DistancesFrom returns what the reference's returns, for all grounds and places; no condition beside. -/
import Derived.Test.YthcccgeeccjfiaaCFnExactDistancesFrom4
import Derived.Test.YthcccgeeccjfiaaRows
section
namespace Go.Proofs.Ythcccgeeccjfiaa.P
open Go.RowKit Go.Proofs.YthcccgeeccjfiaaW.PrintWords Go.Proofs.YthcccgeeccjfiaaW.PrintLast Go.Proofs.YthcccgeeccjfiaaW.PrintMore
attribute [local go_sem] max2_int min2_int max_two min_two max_three min_three max_four min_four   -- for this text's walks alone
set_option linter.unusedVariables false
set_option linter.unusedSimpArgs false
set_option maxHeartbeats 8000000 in
set_option maxRecDepth 100000 in
theorem laws_FnExactDistancesFrom.calls (k : Nat) (a0_0 : Int) (a0_1 : Int) (a1 : Int) (r : Bool) (w : World) (h : laws_FnExactDistancesFrom.f k a0_0 a0_1 a1 = some r) :
    Calls Try.prog 7 #[.agg #[.int .i64 a0_0, .int .i64 a0_1], .int .i64 a1] w fun e w' => e = .returned (.bool r) ∧ Below w.heap.size w w' := by
  have hu44 := Try.underlying44
  have HB := Aside0.mk (Below.refl w.heap.size w)
  have H : ((laws_toGround.f a0_0 a0_1).bind fun bt102 => ((spec_DistancesFrom.f k bt102.1 bt102.2 a1).bind fun bt104 => ((laws_toGround.f a0_0 a0_1).bind fun bt108 => ((impl_DistancesFrom.f k bt108.1 bt108.2 a1).bind fun bt110 => ((laws_eqInt64S.f k bt110.1 bt104.1).bind fun t114 => (if t114 = true then (laws_FnExactDistancesFrom.j0 k a1 bt104.1 bt104.2 bt110.1 (bt110.2 != bt104.2) a0_0 a0_1) else (laws_FnExactDistancesFrom.j0 k a1 bt104.1 bt104.2 bt110.1 true a0_0 a0_1))))))) = some r := h
  clear h
  replace H := Option.bind_eq_some_iff.mp H
  obtain ⟨⟨t102, t103⟩, A30, H⟩ := H
  replace H : ((spec_DistancesFrom.f k t102 t103 a1).bind fun bt104 => ((laws_toGround.f a0_0 a0_1).bind fun bt108 => ((impl_DistancesFrom.f k bt108.1 bt108.2 a1).bind fun bt110 => ((laws_eqInt64S.f k bt110.1 bt104.1).bind fun t114 => (if t114 = true then (laws_FnExactDistancesFrom.j0 k a1 bt104.1 bt104.2 bt110.1 (bt110.2 != bt104.2) a0_0 a0_1) else (laws_FnExactDistancesFrom.j0 k a1 bt104.1 bt104.2 bt110.1 true a0_0 a0_1)))))) = some r := H
  have A3 := Aside0.mk A30
  clear A30
  replace H := Option.bind_eq_some_iff.mp H
  obtain ⟨⟨t104, t107⟩, A40, H⟩ := H
  replace H : ((laws_toGround.f a0_0 a0_1).bind fun bt108 => ((impl_DistancesFrom.f k bt108.1 bt108.2 a1).bind fun bt110 => ((laws_eqInt64S.f k bt110.1 t104).bind fun t114 => (if t114 = true then (laws_FnExactDistancesFrom.j0 k a1 t104 t107 bt110.1 (bt110.2 != t107) a0_0 a0_1) else (laws_FnExactDistancesFrom.j0 k a1 t104 t107 bt110.1 true a0_0 a0_1))))) = some r := H
  have A4 := Aside0.mk A40
  clear A40
  replace H := Option.bind_eq_some_iff.mp H
  obtain ⟨⟨t108, t109⟩, A50, H⟩ := H
  replace H : ((impl_DistancesFrom.f k t108 t109 a1).bind fun bt110 => ((laws_eqInt64S.f k bt110.1 t104).bind fun t114 => (if t114 = true then (laws_FnExactDistancesFrom.j0 k a1 t104 t107 bt110.1 (bt110.2 != t107) a0_0 a0_1) else (laws_FnExactDistancesFrom.j0 k a1 t104 t107 bt110.1 true a0_0 a0_1)))) = some r := H
  have A5 := Aside0.mk A50
  clear A50
  replace H := Option.bind_eq_some_iff.mp H
  obtain ⟨⟨t110, t113⟩, A60, H⟩ := H
  replace H : ((laws_eqInt64S.f k t110 t104).bind fun t114 => (if t114 = true then (laws_FnExactDistancesFrom.j0 k a1 t104 t107 t110 (t113 != t107) a0_0 a0_1) else (laws_FnExactDistancesFrom.j0 k a1 t104 t107 t110 true a0_0 a0_1))) = some r := H
  have A6 := Aside0.mk A60
  clear A60
  have HC7 := Aside0.mk H
  clear H
  go_enter Try.func7, Try.ntmps7
  go_upto_region 3 with (first | ((with_reducible refine gate_dst (N := 2) rfl ?_); refine box_event ?hg (N := 2) ?hd (cs := #[.int .i64 a0_0, .int .i64 a0_1]) (t := 44) ?hr ?_; (case hd => rfl); (case hg => rfl); (case hr => first | (go_simp; done) | (go_simp; rfl)); intro gb101 hg w8 hbox hb; have n0_ := Aside0.mk (below_step (by repeat (first | (with_reducible first | exact HB.out | apply below_alloc | apply pw_below_drewN | apply below_drew1) | exact HB.out)) hb); have n1_ := Aside0.mk (hbox); have n2_ := Aside0.mk ((by rw [hg]; exact (below_size (by repeat (first | (with_reducible first | exact HB.out | apply below_alloc | apply pw_below_drewN | apply below_drew1) | exact HB.out))) : w.heap.size ≤ gb101)); have n3_ := Aside0.mk ((by rw [hg]; exact (below_size (by repeat (first | (with_reducible first | exact HB.out | apply below_alloc | apply pw_below_drewN | apply below_drew1) | exact HB.out))) : w.heap.size ≤ gb101)); clear HB; have HB := n0_; have BK101 := n1_; have GW101 := n2_; have GE101 := n3_; clear n0_ n1_ n2_ n3_; clear hb hbox hg; have hcz9_0 : w8.cell? ⟨gb101, 0, none⟩ = some (.int .i64 a0_0) := (blk_cell BK101.out 0).trans rfl; have hcz9_1 : w8.cell? ⟨gb101, 1, none⟩ = some (.int .i64 a0_1) := (blk_cell BK101.out 1).trans rfl; have hfz9_0 := blk_frozen BK101.out 0; have hfz9_1 := blk_frozen BK101.out 1) | ((with_reducible refine gate_callee (f := 31) rfl ?_); refine goesL_ (some 15) rfl rfl Try.func31 (by kernel_rfl) rfl #[.agg #[.int .i64 a0_0, .int .i64 a0_1]] rfl (by (try simp only [List.map_toArray, List.map_cons, List.map_nil]); first | done | rfl | (simp only [List.length_drop, List.length_take]; rfl)) ?_; (with_reducible refine (laws_toGround.calls a0_0 a0_1 t102 t103 _ A3.out).mono ?_); rintro e w10 ⟨rfl, hb⟩; refine ⟨_, rfl, ?_⟩; have n0_ := Aside0.mk (blk_below (g := gb101) (o := .cells #[.int .i64 a0_0, .int .i64 a0_1] 44 (0, 0)) (by (with_reducible repeat (first | refine blk_drewN ?_ _ | refine blk_drew ?_ | refine blk_alloc ?_ _)); exact BK101.out) hb); have n1_ := Aside0.mk (below_step (by repeat (first | (with_reducible first | exact HB.out | apply below_alloc | apply pw_below_drewN | apply below_drew1 | refine below_set ?_ GE101.out) | exact HB.out)) hb); clear BK101; clear HB; have BK101 := n0_; have HB := n1_; clear n0_ n1_; (try clear hb); (try clear hb2); (try clear hk); (try clear hi)) | ((with_reducible refine gate_callee (f := 30) rfl ?_); refine goesL_ (some 17) rfl rfl Try.func30 (by kernel_rfl) rfl #[.agg #[.int .i64 t102, .int .i64 t103], .int .i64 a1] rfl (by (try simp only [List.map_toArray, List.map_cons, List.map_nil]); first | done | rfl | (simp only [List.length_drop, List.length_take]; rfl)) ?_; (with_reducible refine (spec_DistancesFrom.calls k t102 t103 a1 t104 t107 _ A4.out).mono ?_); rintro e w11 ⟨v105, rfl, ho0, hb⟩; refine ⟨_, rfl, ?_⟩; have n0_ := Aside0.mk (Kd.R_lower ho0 (below_size (by repeat (first | (with_reducible first | exact HB.out | apply below_alloc | apply pw_below_drewN | apply below_drew1 | refine below_set ?_ GE101.out) | exact HB.out)))); have n1_ := Aside0.mk (blk_below (g := gb101) (o := .cells #[.int .i64 a0_0, .int .i64 a0_1] 44 (0, 0)) (by (with_reducible repeat (first | refine blk_drewN ?_ _ | refine blk_drew ?_ | refine blk_alloc ?_ _)); exact BK101.out) hb); have n2_ := Aside0.mk (below_step (by repeat (first | (with_reducible first | exact HB.out | apply below_alloc | apply pw_below_drewN | apply below_drew1 | refine below_set ?_ GE101.out) | exact HB.out)) hb); clear BK101; clear HB; have HO106 := n0_; have BK101 := n1_; have HB := n2_; clear n0_ n1_ n2_; (try clear hb); (try clear hb2); (try clear hk); (try clear hi); (try clear ho0); have hcz12_0 : w11.cell? ⟨gb101, 0, none⟩ = some (.int .i64 a0_0) := (blk_cell BK101.out 0).trans rfl; have hcz12_1 : w11.cell? ⟨gb101, 1, none⟩ = some (.int .i64 a0_1) := (blk_cell BK101.out 1).trans rfl; have hfz12_0 := blk_frozen BK101.out 0; have hfz12_1 := blk_frozen BK101.out 1) | ((with_reducible refine gate_callee (f := 31) rfl ?_); refine goesL_ (some 22) rfl rfl Try.func31 (by kernel_rfl) rfl #[.agg #[.int .i64 a0_0, .int .i64 a0_1]] rfl (by (try simp only [List.map_toArray, List.map_cons, List.map_nil]); first | done | rfl | (simp only [List.length_drop, List.length_take]; rfl)) ?_; (with_reducible refine (laws_toGround.calls a0_0 a0_1 t108 t109 _ A5.out).mono ?_); rintro e w13 ⟨rfl, hb⟩; refine ⟨_, rfl, ?_⟩; have n0_ := Aside0.mk (Kd.R_below (by (with_reducible repeat (first | apply Kd.R_alloc | apply Kd.R_drewN | apply Kd.R_drew)); exact HO106.out) hb); have n1_ := Aside0.mk (blk_below (g := gb101) (o := .cells #[.int .i64 a0_0, .int .i64 a0_1] 44 (0, 0)) (by (with_reducible repeat (first | refine blk_drewN ?_ _ | refine blk_drew ?_ | refine blk_alloc ?_ _)); exact BK101.out) hb); have n2_ := Aside0.mk (below_step (by repeat (first | (with_reducible first | exact HB.out | apply below_alloc | apply pw_below_drewN | apply below_drew1 | refine below_set ?_ GE101.out) | exact HB.out)) hb); clear HO106; clear BK101; clear HB; have HO106 := n0_; have BK101 := n1_; have HB := n2_; clear n0_ n1_ n2_; (try clear hb); (try clear hb2); (try clear hk); (try clear hi)) | ((with_reducible refine gate_callee (f := 32) rfl ?_); refine goesL_ (some 24) rfl rfl Try.func32 (by kernel_rfl) rfl #[.agg #[.int .i64 t108, .int .i64 t109], .int .i64 a1] rfl (by (try simp only [List.map_toArray, List.map_cons, List.map_nil]); first | done | rfl | (simp only [List.length_drop, List.length_take]; rfl)) ?_; (with_reducible refine (impl_DistancesFrom.calls k t108 t109 a1 t110 t113 _ A6.out).mono ?_); rintro e w14 ⟨v111, rfl, ho0, hb⟩; refine ⟨_, rfl, ?_⟩; have n0_ := Aside0.mk (Kd.R_elder' (by (with_reducible repeat (first | apply Kd.R_alloc | apply Kd.R_drewN | apply Kd.R_drew)); exact HO106.out) (Kd.R_base ho0) hb); have n1_ := Aside0.mk (Kd.R_lower (Kd.R_new' ho0 (Kd.R_lt (by (with_reducible repeat (first | apply Kd.R_alloc | apply Kd.R_drewN | apply Kd.R_drew)); exact HO106.out))) (below_size (by repeat (first | (with_reducible first | exact HB.out | apply below_alloc | apply pw_below_drewN | apply below_drew1 | refine below_set ?_ GE101.out) | exact HB.out)))); have n2_ := Aside0.mk (blk_below (g := gb101) (o := .cells #[.int .i64 a0_0, .int .i64 a0_1] 44 (0, 0)) (by (with_reducible repeat (first | refine blk_drewN ?_ _ | refine blk_drew ?_ | refine blk_alloc ?_ _)); exact BK101.out) hb); have n3_ := Aside0.mk (below_step (by repeat (first | (with_reducible first | exact HB.out | apply below_alloc | apply pw_below_drewN | apply below_drew1 | refine below_set ?_ GE101.out) | exact HB.out)) hb); clear HO106; clear BK101; clear HB; have HO106 := n0_; have HO112 := n1_; have BK101 := n2_; have HB := n3_; clear n0_ n1_ n2_ n3_; (try clear hb); (try clear hb2); (try clear hk); (try clear hi); (try clear ho0)))
  (try simp only [Act.put, List.setIfInBounds_toArray, List.set_cons_zero, List.set_cons_succ])
  go_cut [35] (fun v35 wc => ∃ (kq : Nat) (x35_6 : Bool), v35 = .bool x35_6 ∧ Aside0 (laws_FnExactDistancesFrom.j0 kq a1 t104 t107 t110 x35_6 a0_0 a0_1 = some r) ∧ Aside0 (kq ≤ k) ∧ Aside0 (Kd.R (Kd.int .i64) 2 wc w.heap.size (fun k_ => some k_ ≠ (v111 : Value).ownBlock) v105 t104) ∧ Aside0 (Kd.R (Kd.int .i64) 2 wc w.heap.size (fun k_ => some k_ ≠ (v105 : Value).ownBlock) v111 t110) ∧ Aside0 (wc.heap[gb101]? = some (.cells #[.int .i64 a0_0, .int .i64 a0_1] 44 (0, 0))) ∧ Aside0 (Below w.heap.size w wc))
  case first =>
    have H := HC7.out
    clear HC7
    replace H := Option.bind_eq_some_iff.mp H
    obtain ⟨t114, A150, H⟩ := H
    replace H : (if t114 = true then (laws_FnExactDistancesFrom.j0 k a1 t104 t107 t110 (t113 != t107) a0_0 a0_1) else (laws_FnExactDistancesFrom.j0 k a1 t104 t107 t110 true a0_0 a0_1)) = some r := H
    have A15 := Aside0.mk A150
    clear A150
    by_cases c16 : t114 = true
    · subst c16
      have H1 : (laws_FnExactDistancesFrom.j0 k a1 t104 t107 t110 (t113 != t107) a0_0 a0_1) = some r := by rw [if_pos rfl] at H; exact H
      clear H
      have H := H1
      clear H1
      have H' := Aside0.mk H
      clear H
      obtain ⟨Ao17, co17, eo17⟩ := Kd.R_slice HO112.out
      subst eo17
      obtain ⟨Ao18, co18, eo18⟩ := Kd.R_slice HO106.out
      subst eo18
      go_wp2_with (first | ((with_reducible refine gate_callee (f := 25) rfl ?_); refine goesL_ (some 29) rfl rfl Try.func25 (by kernel_rfl) rfl #[.slice Ao17 t110.length co17, .slice Ao18 t104.length co18] rfl (by (try simp only [List.map_toArray, List.map_cons, List.map_nil]); first | done | rfl | (simp only [List.length_drop, List.length_take]; rfl)) ?_; (with_reducible refine (laws_eqInt64S.calls k _ _ t110 _ _ t104 true _ ?side1 ?side2 ?side3 ?side4 A15.out).mono ?_); (case side1 => repeat (first | exact (Kd.R_reads' HO112.out).2.2 | (with_reducible refine Kd.C_alloc ?_ _) | (with_reducible refine Kd.C_drewN ?_ _) | (with_reducible refine Kd.C_drew ?_))); (case side2 => exact (Kd.R_reads' HO112.out).2.1); (case side3 => repeat (first | exact (Kd.R_reads' HO106.out).2.2 | (with_reducible refine Kd.C_alloc ?_ _) | (with_reducible refine Kd.C_drewN ?_ _) | (with_reducible refine Kd.C_drew ?_))); (case side4 => exact (Kd.R_reads' HO106.out).2.1); rintro e w' ⟨rfl, ⟨nd, rfl⟩⟩; refine ⟨_, rfl, ?_⟩))
      go_meet
      case rel => exact ⟨_, ((t113 != t107)), (by first | rfl | (simp; done) | (simp [*]; done)), H', ⟨by first | omega | exact Nat.le_refl _⟩, ⟨by (with_reducible repeat (first | apply Kd.R_alloc | apply Kd.R_drewN | apply Kd.R_drew)); exact Kd.R_mono HO106.out (fun _ hk => hk.2)⟩, ⟨by (with_reducible repeat (first | apply Kd.R_alloc | apply Kd.R_drewN | apply Kd.R_drew)); exact Kd.R_mono HO112.out (fun _ hk => hk.2)⟩, ⟨by (with_reducible repeat (first | refine blk_drewN ?_ _ | refine blk_drew ?_ | refine blk_alloc ?_ _)); exact BK101.out⟩, ⟨by repeat (first | (with_reducible first | exact HB.out | apply below_alloc | apply pw_below_drewN | apply below_drew1 | refine below_set ?_ GE101.out) | exact HB.out)⟩⟩
    · replace c16 := Bool.eq_false_iff.mpr c16
      subst c16
      have H1 : (laws_FnExactDistancesFrom.j0 k a1 t104 t107 t110 true a0_0 a0_1) = some r := by rw [if_neg (show ¬ (false = true) by decide)] at H; exact H
      clear H
      have H := H1
      clear H1
      have H' := Aside0.mk H
      clear H
      obtain ⟨Ao19, co19, eo19⟩ := Kd.R_slice HO112.out
      subst eo19
      obtain ⟨Ao20, co20, eo20⟩ := Kd.R_slice HO106.out
      subst eo20
      go_wp2_with (first | ((with_reducible refine gate_callee (f := 25) rfl ?_); refine goesL_ (some 29) rfl rfl Try.func25 (by kernel_rfl) rfl #[.slice Ao19 t110.length co19, .slice Ao20 t104.length co20] rfl (by (try simp only [List.map_toArray, List.map_cons, List.map_nil]); first | done | rfl | (simp only [List.length_drop, List.length_take]; rfl)) ?_; (with_reducible refine (laws_eqInt64S.calls k _ _ t110 _ _ t104 false _ ?side1 ?side2 ?side3 ?side4 A15.out).mono ?_); (case side1 => repeat (first | exact (Kd.R_reads' HO112.out).2.2 | (with_reducible refine Kd.C_alloc ?_ _) | (with_reducible refine Kd.C_drewN ?_ _) | (with_reducible refine Kd.C_drew ?_))); (case side2 => exact (Kd.R_reads' HO112.out).2.1); (case side3 => repeat (first | exact (Kd.R_reads' HO106.out).2.2 | (with_reducible refine Kd.C_alloc ?_ _) | (with_reducible refine Kd.C_drewN ?_ _) | (with_reducible refine Kd.C_drew ?_))); (case side4 => exact (Kd.R_reads' HO106.out).2.1); rintro e w' ⟨rfl, ⟨nd, rfl⟩⟩; refine ⟨_, rfl, ?_⟩))
      go_meet
      case rel => exact ⟨_, (true), (by first | rfl | (simp; done) | (simp [*]; done)), H', ⟨by first | omega | exact Nat.le_refl _⟩, ⟨by (with_reducible repeat (first | apply Kd.R_alloc | apply Kd.R_drewN | apply Kd.R_drew)); exact Kd.R_mono HO106.out (fun _ hk => hk.2)⟩, ⟨by (with_reducible repeat (first | apply Kd.R_alloc | apply Kd.R_drewN | apply Kd.R_drew)); exact Kd.R_mono HO112.out (fun _ hk => hk.2)⟩, ⟨by (with_reducible repeat (first | refine blk_drewN ?_ _ | refine blk_drew ?_ | refine blk_alloc ?_ _)); exact BK101.out⟩, ⟨by repeat (first | (with_reducible first | exact HB.out | apply below_alloc | apply pw_below_drewN | apply below_drew1 | refine below_set ?_ GE101.out) | exact HB.out)⟩⟩
  case rest =>
    clear HC7
    try clear c1
    try clear c2
    try clear p2
    try clear c3
    try clear c7
    try clear c16
    try clear hcz12_0
    try clear hcz12_1
    try clear hcz9_0
    try clear hcz9_1
    try clear hfz12_0
    try clear hfz12_1
    try clear hfz9_0
    try clear hfz9_1
    obtain ⟨kq, x35_6, rfl, HA, HJ6, HO_5, HO_7, BK101, HB⟩ := hcut
    cases kq with
    | zero => exact absurd HA.out (by simp [laws_FnExactDistancesFrom.j0])
    | succ kj6 =>
      have H := HA.out
      clear HA
      simp only [laws_FnExactDistancesFrom.j0] at H
      by_cases c21 : x35_6 = true
      · subst c21
        have H1 : (some false) = some r := by rw [if_pos rfl] at H; exact H
        clear H
        have H := H1
        clear H1
        obtain rfl := Option.some.inj H
        go_wp2
        go_ret
        exact ⟨by first | rfl | (simp [errW_none, errW_some] <;> rfl) | (simp [*, errW_none, errW_some] <;> rfl), by repeat (first | (with_reducible first | exact HB.out | apply below_alloc | apply pw_below_drewN | apply below_drew1 | refine below_set ?_ GE101.out) | exact HB.out)⟩
      · replace c21 := Bool.eq_false_iff.mpr c21
        subst c21
        have H1 : ((laws_markInt64S.f kj6 t110 1).bind fun bt115 => ((laws_heldInt64S.f kj6 bt115.2 1).bind fun t117 => (if t117 < 0 then (some false) else (if t117 = bt115.1 then ((laws_toGround.f a0_0 a0_1).bind fun bt118 => ((impl_DistancesFrom.f kj6 bt118.1 bt118.2 a1).bind fun bt120 => ((laws_eqInt64S.f kj6 bt120.1 t104).bind fun t124 => (if t124 = true then (laws_FnExactDistancesFrom.j1 kj6 bt115.2 bt115.1 (bt120.2 != t107)) else (laws_FnExactDistancesFrom.j1 kj6 bt115.2 bt115.1 true))))) else (some false))))) = some r := by rw [if_neg (show ¬ (false = true) by decide)] at H; exact H
        clear H
        have H := H1
        clear H1
        replace H := Option.bind_eq_some_iff.mp H
        obtain ⟨⟨t115, t116⟩, A220, H⟩ := H
        replace H : ((laws_heldInt64S.f kj6 t116 1).bind fun t117 => (if t117 < 0 then (some false) else (if t117 = t115 then ((laws_toGround.f a0_0 a0_1).bind fun bt118 => ((impl_DistancesFrom.f kj6 bt118.1 bt118.2 a1).bind fun bt120 => ((laws_eqInt64S.f kj6 bt120.1 t104).bind fun t124 => (if t124 = true then (laws_FnExactDistancesFrom.j1 kj6 t116 t115 (bt120.2 != t107)) else (laws_FnExactDistancesFrom.j1 kj6 t116 t115 true))))) else (some false)))) = some r := H
        have A22 := Aside0.mk A220
        clear A220
        replace H := Option.bind_eq_some_iff.mp H
        obtain ⟨t117, A230, H⟩ := H
        replace H : (if t117 < 0 then (some false) else (if t117 = t115 then ((laws_toGround.f a0_0 a0_1).bind fun bt118 => ((impl_DistancesFrom.f kj6 bt118.1 bt118.2 a1).bind fun bt120 => ((laws_eqInt64S.f kj6 bt120.1 t104).bind fun t124 => (if t124 = true then (laws_FnExactDistancesFrom.j1 kj6 t116 t115 (bt120.2 != t107)) else (laws_FnExactDistancesFrom.j1 kj6 t116 t115 true))))) else (some false))) = some r := H
        have A23 := Aside0.mk A230
        clear A230
        by_cases c24 : t117 < 0
        · rw [if_pos c24] at H
          have c24b0 : decide (t117 < 0) = true := decide_eq_true c24
          clear c24
          obtain rfl := Option.some.inj H
          obtain ⟨Ao25, co25, eo25⟩ := Kd.R_slice HO_7.out
          subst eo25
          go_wp2_with (first | ((with_reducible refine gate_callee (f := 26) rfl ?_); refine goesL_ (some 38) rfl rfl Try.func26 (by kernel_rfl) rfl #[.slice Ao25 t110.length co25, .int .i64 1] rfl (by (try simp only [List.map_toArray, List.map_cons, List.map_nil]); first | done | rfl | (simp only [List.length_drop, List.length_take]; rfl)) ?_; (with_reducible refine (laws_markInt64S.calls kj6 (fun k_ => some k_ = (.slice Ao25 t110.length co25 : Value).ownBlock) (.slice Ao25 t110.length co25) t110 1 t115 t116 w _ ?side1 ?side2 A22.out).mono ?_); (case side1 => repeat (first | (with_reducible first | exact HB.out | apply below_alloc | apply pw_below_drewN | apply below_drew1 | refine below_set ?_ GE101.out) | exact HB.out)); (case side2 => exact Kd.R_tight rfl HO_7.out); rintro e w26 ⟨rfl, hy0, hb, hkp⟩; refine ⟨_, rfl, ?_⟩; have n0_ := Aside0.mk (Kd.R_mono (ok' := fun k_ => some k_ ≠ (.slice Ao25 t110.length co25 : Value).ownBlock) (Kd.R_keptB (HO_5.out) hkp (fun k_ hk_ hs_ => (hk_) hs_)) (fun k_ hk_ => hk_.1)); have n1_ := Aside0.mk (Kd.R_reok rfl hy0 (fun k_ e_ => HO_7.out.1 k_ e_)); have n2_ := Aside0.mk (blk_kept (by (with_reducible repeat (first | refine blk_drewN ?_ _ | refine blk_drew ?_ | refine blk_alloc ?_ _)); exact BK101.out) hkp (fun hs_ => (fun e_ => (Kd.R_ne HO_7.out BK101.out (by decide)) e_) hs_)); have n3_ := Aside0.mk (hb); clear HO_5; clear HO_7; clear BK101; clear HB; have HO_5 := n0_; have HO_7 := n1_; have BK101 := n2_; have HB := n3_; clear n0_ n1_ n2_ n3_; (try clear hb); (try clear hkp); (try clear hy0)) | ((with_reducible refine gate_callee (f := 27) rfl ?_); refine goesL_ (some 41) rfl rfl Try.func27 (by kernel_rfl) rfl #[.slice Ao25 t116.length co25, .int .i64 1] rfl (by (try simp only [List.map_toArray, List.map_cons, List.map_nil]); first | done | (rw [show t116.length = t110.length from (Kd.R_reads' HO_7.out).1.symm] <;> rfl) | rfl | (simp only [List.length_drop, List.length_take]; rfl)) ?_; (with_reducible refine (laws_heldInt64S.calls kj6 _ _ t116 1 t117 _ ?side1 ?side2 A23.out).mono ?_); (case side1 => repeat (first | exact (Kd.R_reads' HO_7.out).2.2 | (with_reducible refine Kd.C_alloc ?_ _) | (with_reducible refine Kd.C_drewN ?_ _) | (with_reducible refine Kd.C_drew ?_))); (case side2 => rw [show t116.length = t110.length from (Kd.R_reads' HO_7.out).1.symm]; exact (Kd.R_reads' HO_7.out).2.1); rintro e w' ⟨rfl, ⟨nd, rfl⟩⟩; refine ⟨_, rfl, ?_⟩))
          go_ret
          exact ⟨by first | rfl | (simp [errW_none, errW_some] <;> rfl) | (simp [*, errW_none, errW_some] <;> rfl), by repeat (first | (with_reducible first | exact HB.out | apply below_alloc | apply pw_below_drewN | apply below_drew1 | refine below_set ?_ GE101.out) | exact HB.out)⟩
        · rw [if_neg c24] at H
          have c24b0 : decide (t117 < 0) = false := decide_eq_false c24
          clear c24
          by_cases c27 : t117 = t115
          · rw [if_pos c27] at H
            have c27b0 : (t117 == t115) = true := beq_iff_eq.mpr c27
            have c27b1 : (t117 != t115) = false := bne_eq_false_iff_eq.mpr c27
            clear c27
            replace H := Option.bind_eq_some_iff.mp H
            obtain ⟨⟨t118, t119⟩, A280, H⟩ := H
            replace H : ((impl_DistancesFrom.f kj6 t118 t119 a1).bind fun bt120 => ((laws_eqInt64S.f kj6 bt120.1 t104).bind fun t124 => (if t124 = true then (laws_FnExactDistancesFrom.j1 kj6 t116 t115 (bt120.2 != t107)) else (laws_FnExactDistancesFrom.j1 kj6 t116 t115 true)))) = some r := H
            have A28 := Aside0.mk A280
            clear A280
            replace H := Option.bind_eq_some_iff.mp H
            obtain ⟨⟨t120, t123⟩, A290, H⟩ := H
            replace H : ((laws_eqInt64S.f kj6 t120 t104).bind fun t124 => (if t124 = true then (laws_FnExactDistancesFrom.j1 kj6 t116 t115 (t123 != t107)) else (laws_FnExactDistancesFrom.j1 kj6 t116 t115 true))) = some r := H
            have A29 := Aside0.mk A290
            clear A290
            have HC30 := Aside0.mk H
            clear H
            obtain ⟨Ao31, co31, eo31⟩ := Kd.R_slice HO_7.out
            subst eo31
            go_upto_region 14 with (first | ((with_reducible refine gate_callee (f := 26) rfl ?_); refine goesL_ (some 38) rfl rfl Try.func26 (by kernel_rfl) rfl #[.slice Ao31 t110.length co31, .int .i64 1] rfl (by (try simp only [List.map_toArray, List.map_cons, List.map_nil]); first | done | rfl | (simp only [List.length_drop, List.length_take]; rfl)) ?_; (with_reducible refine (laws_markInt64S.calls kj6 (fun k_ => some k_ = (.slice Ao31 t110.length co31 : Value).ownBlock) (.slice Ao31 t110.length co31) t110 1 t115 t116 w _ ?side1 ?side2 A22.out).mono ?_); (case side1 => repeat (first | (with_reducible first | exact HB.out | apply below_alloc | apply pw_below_drewN | apply below_drew1 | refine below_set ?_ GE101.out) | exact HB.out)); (case side2 => exact Kd.R_tight rfl HO_7.out); rintro e w32 ⟨rfl, hy0, hb, hkp⟩; refine ⟨_, rfl, ?_⟩; have n0_ := Aside0.mk (Kd.R_mono (ok' := fun k_ => some k_ ≠ (.slice Ao31 t110.length co31 : Value).ownBlock) (Kd.R_keptB (HO_5.out) hkp (fun k_ hk_ hs_ => (hk_) hs_)) (fun k_ hk_ => hk_.1)); have n1_ := Aside0.mk (Kd.R_reok rfl hy0 (fun k_ e_ => HO_7.out.1 k_ e_)); have n2_ := Aside0.mk (blk_kept (by (with_reducible repeat (first | refine blk_drewN ?_ _ | refine blk_drew ?_ | refine blk_alloc ?_ _)); exact BK101.out) hkp (fun hs_ => (fun e_ => (Kd.R_ne HO_7.out BK101.out (by decide)) e_) hs_)); have n3_ := Aside0.mk (hb); clear HO_5; clear HO_7; clear BK101; clear HB; have HO_5 := n0_; have HO_7 := n1_; have BK101 := n2_; have HB := n3_; clear n0_ n1_ n2_ n3_; (try clear hb); (try clear hkp); (try clear hy0)) | ((with_reducible refine gate_callee (f := 27) rfl ?_); refine goesL_ (some 41) rfl rfl Try.func27 (by kernel_rfl) rfl #[.slice Ao31 t116.length co31, .int .i64 1] rfl (by (try simp only [List.map_toArray, List.map_cons, List.map_nil]); first | done | (rw [show t116.length = t110.length from (Kd.R_reads' HO_7.out).1.symm] <;> rfl) | rfl | (simp only [List.length_drop, List.length_take]; rfl)) ?_; (with_reducible refine (laws_heldInt64S.calls kj6 _ _ t116 1 t117 _ ?side1 ?side2 A23.out).mono ?_); (case side1 => repeat (first | exact (Kd.R_reads' HO_7.out).2.2 | (with_reducible refine Kd.C_alloc ?_ _) | (with_reducible refine Kd.C_drewN ?_ _) | (with_reducible refine Kd.C_drew ?_))); (case side2 => rw [show t116.length = t110.length from (Kd.R_reads' HO_7.out).1.symm]; exact (Kd.R_reads' HO_7.out).2.1); rintro e w' ⟨rfl, ⟨nd, rfl⟩⟩; refine ⟨_, rfl, ?_⟩; have hcz33_0 : w32.cell? ⟨gb101, 0, none⟩ = some (.int .i64 a0_0) := (blk_cell BK101.out 0).trans rfl; have hcz33_1 : w32.cell? ⟨gb101, 1, none⟩ = some (.int .i64 a0_1) := (blk_cell BK101.out 1).trans rfl; have hfz33_0 := blk_frozen BK101.out 0; have hfz33_1 := blk_frozen BK101.out 1) | ((with_reducible refine gate_callee (f := 31) rfl ?_); refine goesL_ (some 49) rfl rfl Try.func31 (by kernel_rfl) rfl #[.agg #[.int .i64 a0_0, .int .i64 a0_1]] rfl (by (try simp only [List.map_toArray, List.map_cons, List.map_nil]); first | done | rfl | (simp only [List.length_drop, List.length_take]; rfl)) ?_; (with_reducible refine (laws_toGround.calls a0_0 a0_1 t118 t119 _ A28.out).mono ?_); rintro e w34 ⟨rfl, hb⟩; refine ⟨_, rfl, ?_⟩; have n0_ := Aside0.mk (Kd.R_below (by (with_reducible repeat (first | apply Kd.R_alloc | apply Kd.R_drewN | apply Kd.R_drew)); exact HO_5.out) hb); have n1_ := Aside0.mk (Kd.R_below (by (with_reducible repeat (first | apply Kd.R_alloc | apply Kd.R_drewN | apply Kd.R_drew)); exact HO_7.out) hb); have n2_ := Aside0.mk (blk_below (g := gb101) (o := .cells #[.int .i64 a0_0, .int .i64 a0_1] 44 (0, 0)) (by (with_reducible repeat (first | refine blk_drewN ?_ _ | refine blk_drew ?_ | refine blk_alloc ?_ _)); exact BK101.out) hb); have n3_ := Aside0.mk (below_step (by repeat (first | (with_reducible first | exact HB.out | apply below_alloc | apply pw_below_drewN | apply below_drew1 | refine below_set ?_ GE101.out) | exact HB.out)) hb); clear HO_5; clear HO_7; clear BK101; clear HB; have HO_5 := n0_; have HO_7 := n1_; have BK101 := n2_; have HB := n3_; clear n0_ n1_ n2_ n3_; (try clear hb); (try clear hb2); (try clear hk); (try clear hi)) | ((with_reducible refine gate_callee (f := 32) rfl ?_); refine goesL_ (some 51) rfl rfl Try.func32 (by kernel_rfl) rfl #[.agg #[.int .i64 t118, .int .i64 t119], .int .i64 a1] rfl (by (try simp only [List.map_toArray, List.map_cons, List.map_nil]); first | done | rfl | (simp only [List.length_drop, List.length_take]; rfl)) ?_; (with_reducible refine (impl_DistancesFrom.calls kj6 t118 t119 a1 t120 t123 _ A29.out).mono ?_); rintro e w35 ⟨v121, rfl, ho0, hb⟩; refine ⟨_, rfl, ?_⟩; have n0_ := Aside0.mk (Kd.R_elder' (by (with_reducible repeat (first | apply Kd.R_alloc | apply Kd.R_drewN | apply Kd.R_drew)); exact HO_5.out) (Kd.R_base ho0) hb); have n1_ := Aside0.mk (Kd.R_elder' (by (with_reducible repeat (first | apply Kd.R_alloc | apply Kd.R_drewN | apply Kd.R_drew)); exact HO_7.out) (Kd.R_base ho0) hb); have n2_ := Aside0.mk (Kd.R_lower (Kd.R_new' (Kd.R_new' ho0 (Kd.R_lt (by (with_reducible repeat (first | apply Kd.R_alloc | apply Kd.R_drewN | apply Kd.R_drew)); exact HO_5.out))) (Kd.R_lt (by (with_reducible repeat (first | apply Kd.R_alloc | apply Kd.R_drewN | apply Kd.R_drew)); exact HO_7.out))) (below_size (by repeat (first | (with_reducible first | exact HB.out | apply below_alloc | apply pw_below_drewN | apply below_drew1 | refine below_set ?_ GE101.out) | exact HB.out)))); have n3_ := Aside0.mk (blk_below (g := gb101) (o := .cells #[.int .i64 a0_0, .int .i64 a0_1] 44 (0, 0)) (by (with_reducible repeat (first | refine blk_drewN ?_ _ | refine blk_drew ?_ | refine blk_alloc ?_ _)); exact BK101.out) hb); have n4_ := Aside0.mk (below_step (by repeat (first | (with_reducible first | exact HB.out | apply below_alloc | apply pw_below_drewN | apply below_drew1 | refine below_set ?_ GE101.out) | exact HB.out)) hb); clear HO_5; clear HO_7; clear BK101; clear HB; have HO_5 := n0_; have HO_7 := n1_; have HO122 := n2_; have BK101 := n3_; have HB := n4_; clear n0_ n1_ n2_ n3_ n4_; (try clear hb); (try clear hb2); (try clear hk); (try clear hi); (try clear ho0)))
            (try simp only [Act.put, List.setIfInBounds_toArray, List.set_cons_zero, List.set_cons_succ])
            go_cut [62] (fun v62 wc => ∃ (kq : Nat) (x62_29 : Bool), v62 = .bool x62_29 ∧ Aside0 (laws_FnExactDistancesFrom.j1 kq t116 t115 x62_29 = some r) ∧ Aside0 (kq ≤ kj6) ∧ Aside0 (Kd.R (Kd.int .i64) 2 wc w.heap.size (fun _ => True) (.slice Ao31 t110.length co31) t116) ∧ Aside0 (wc.heap[gb101]? = some (.cells #[.int .i64 a0_0, .int .i64 a0_1] 44 (0, 0))) ∧ Aside0 (Below w.heap.size w wc))
            case first =>
              have H := HC30.out
              clear HC30
              replace H := Option.bind_eq_some_iff.mp H
              obtain ⟨t124, A360, H⟩ := H
              replace H : (if t124 = true then (laws_FnExactDistancesFrom.j1 kj6 t116 t115 (t123 != t107)) else (laws_FnExactDistancesFrom.j1 kj6 t116 t115 true)) = some r := H
              have A36 := Aside0.mk A360
              clear A360
              by_cases c37 : t124 = true
              · subst c37
                have H1 : (laws_FnExactDistancesFrom.j1 kj6 t116 t115 (t123 != t107)) = some r := by rw [if_pos rfl] at H; exact H
                clear H
                have H := H1
                clear H1
                have H' := Aside0.mk H
                clear H
                obtain ⟨Ao38, co38, eo38⟩ := Kd.R_slice HO122.out
                subst eo38
                obtain ⟨Ao39, co39, eo39⟩ := Kd.R_slice HO_5.out
                subst eo39
                go_wp2_with (first | ((with_reducible refine gate_callee (f := 25) rfl ?_); refine goesL_ (some 56) rfl rfl Try.func25 (by kernel_rfl) rfl #[.slice Ao38 t120.length co38, .slice Ao39 t104.length co39] rfl (by (try simp only [List.map_toArray, List.map_cons, List.map_nil]); first | done | rfl | (simp only [List.length_drop, List.length_take]; rfl)) ?_; (with_reducible refine (laws_eqInt64S.calls kj6 _ _ t120 _ _ t104 true _ ?side1 ?side2 ?side3 ?side4 A36.out).mono ?_); (case side1 => repeat (first | exact (Kd.R_reads' HO122.out).2.2 | (with_reducible refine Kd.C_alloc ?_ _) | (with_reducible refine Kd.C_drewN ?_ _) | (with_reducible refine Kd.C_drew ?_))); (case side2 => exact (Kd.R_reads' HO122.out).2.1); (case side3 => repeat (first | exact (Kd.R_reads' HO_5.out).2.2 | (with_reducible refine Kd.C_alloc ?_ _) | (with_reducible refine Kd.C_drewN ?_ _) | (with_reducible refine Kd.C_drew ?_))); (case side4 => exact (Kd.R_reads' HO_5.out).2.1); rintro e w' ⟨rfl, ⟨nd, rfl⟩⟩; refine ⟨_, rfl, ?_⟩))
                go_meet
                case rel => exact ⟨_, ((t123 != t107)), (by first | rfl | (simp; done) | (simp [*]; done)), H', ⟨by have := HJ6.out; first | omega | exact Nat.le_refl _⟩, ⟨by (with_reducible repeat (first | apply Kd.R_alloc | apply Kd.R_drewN | apply Kd.R_drew)); exact Kd.R_mono HO_7.out (fun _ hk => trivial)⟩, ⟨by (with_reducible repeat (first | refine blk_drewN ?_ _ | refine blk_drew ?_ | refine blk_alloc ?_ _)); exact BK101.out⟩, ⟨by repeat (first | (with_reducible first | exact HB.out | apply below_alloc | apply pw_below_drewN | apply below_drew1 | refine below_set ?_ GE101.out) | exact HB.out)⟩⟩
              · replace c37 := Bool.eq_false_iff.mpr c37
                subst c37
                have H1 : (laws_FnExactDistancesFrom.j1 kj6 t116 t115 true) = some r := by rw [if_neg (show ¬ (false = true) by decide)] at H; exact H
                clear H
                have H := H1
                clear H1
                have H' := Aside0.mk H
                clear H
                obtain ⟨Ao40, co40, eo40⟩ := Kd.R_slice HO122.out
                subst eo40
                obtain ⟨Ao41, co41, eo41⟩ := Kd.R_slice HO_5.out
                subst eo41
                go_wp2_with (first | ((with_reducible refine gate_callee (f := 25) rfl ?_); refine goesL_ (some 56) rfl rfl Try.func25 (by kernel_rfl) rfl #[.slice Ao40 t120.length co40, .slice Ao41 t104.length co41] rfl (by (try simp only [List.map_toArray, List.map_cons, List.map_nil]); first | done | rfl | (simp only [List.length_drop, List.length_take]; rfl)) ?_; (with_reducible refine (laws_eqInt64S.calls kj6 _ _ t120 _ _ t104 false _ ?side1 ?side2 ?side3 ?side4 A36.out).mono ?_); (case side1 => repeat (first | exact (Kd.R_reads' HO122.out).2.2 | (with_reducible refine Kd.C_alloc ?_ _) | (with_reducible refine Kd.C_drewN ?_ _) | (with_reducible refine Kd.C_drew ?_))); (case side2 => exact (Kd.R_reads' HO122.out).2.1); (case side3 => repeat (first | exact (Kd.R_reads' HO_5.out).2.2 | (with_reducible refine Kd.C_alloc ?_ _) | (with_reducible refine Kd.C_drewN ?_ _) | (with_reducible refine Kd.C_drew ?_))); (case side4 => exact (Kd.R_reads' HO_5.out).2.1); rintro e w' ⟨rfl, ⟨nd, rfl⟩⟩; refine ⟨_, rfl, ?_⟩))
                go_meet
                case rel => exact ⟨_, (true), (by first | rfl | (simp; done) | (simp [*]; done)), H', ⟨by have := HJ6.out; first | omega | exact Nat.le_refl _⟩, ⟨by (with_reducible repeat (first | apply Kd.R_alloc | apply Kd.R_drewN | apply Kd.R_drew)); exact Kd.R_mono HO_7.out (fun _ hk => trivial)⟩, ⟨by (with_reducible repeat (first | refine blk_drewN ?_ _ | refine blk_drew ?_ | refine blk_alloc ?_ _)); exact BK101.out⟩, ⟨by repeat (first | (with_reducible first | exact HB.out | apply below_alloc | apply pw_below_drewN | apply below_drew1 | refine below_set ?_ GE101.out) | exact HB.out)⟩⟩
            case rest =>
              clear HC30
              try clear c1
              try clear c2
              try clear p2
              try clear c3
              try clear c7
              try clear c16
              try clear c21
              try clear c24
              try clear c24b0
              try clear c25
              try clear c26
              try clear c27
              try clear c27b0
              try clear c27b1
              try clear c30
              try clear c31
              try clear c32
              try clear c37
              try clear hcz12_0
              try clear hcz12_1
              try clear hcz33_0
              try clear hcz33_1
              try clear hcz9_0
              try clear hcz9_1
              try clear hfz12_0
              try clear hfz12_1
              try clear hfz33_0
              try clear hfz33_1
              try clear hfz9_0
              try clear hfz9_1
              try clear p2
              obtain ⟨kq, x62_29, rfl, HA, HJ29, HO_7, BK101, HB⟩ := hcut
              have hl7_29 := (Kd.R_reads' HO_7.out).1
              rw [hl7_29] at HO_7
              (try simp only [hl7_29])
              (try simp only [hl7_29] at BK101)
              cases kq with
              | zero => exact absurd HA.out (by simp [laws_FnExactDistancesFrom.j1])
              | succ kj29 =>
                have H := HA.out
                clear HA
                simp only [laws_FnExactDistancesFrom.j1] at H
                by_cases c42 : x62_29 = true
                · subst c42
                  have H1 : (some false) = some r := by rw [if_pos rfl] at H; exact H
                  clear H
                  have H := H1
                  clear H1
                  obtain rfl := Option.some.inj H
                  go_wp2
                  go_ret
                  exact ⟨by first | rfl | (simp [errW_none, errW_some] <;> rfl) | (simp [*, errW_none, errW_some] <;> rfl), by repeat (first | (with_reducible first | exact HB.out | apply below_alloc | apply pw_below_drewN | apply below_drew1 | refine below_set ?_ GE101.out) | exact HB.out)⟩
                · replace c42 := Bool.eq_false_iff.mpr c42
                  subst c42
                  have H1 : ((laws_heldInt64S.f kj29 t116 1).bind fun t125 => (if t125 < 0 then (some false) else (if t125 = t115 then (some true) else (some false)))) = some r := by rw [if_neg (show ¬ (false = true) by decide)] at H; exact H
                  clear H
                  have H := H1
                  clear H1
                  replace H := Option.bind_eq_some_iff.mp H
                  obtain ⟨t125, A430, H⟩ := H
                  replace H : (if t125 < 0 then (some false) else (if t125 = t115 then (some true) else (some false))) = some r := H
                  have A43 := Aside0.mk A430
                  clear A430
                  by_cases c44 : t125 < 0
                  · rw [if_pos c44] at H
                    have c44b0 : decide (t125 < 0) = true := decide_eq_true c44
                    clear c44
                    obtain rfl := Option.some.inj H
                    go_wp2_with (first | ((with_reducible refine gate_callee (f := 27) rfl ?_); refine goesL_ (some 65) rfl rfl Try.func27 (by kernel_rfl) rfl #[.slice Ao31 t116.length co31, .int .i64 1] rfl (by (try simp only [List.map_toArray, List.map_cons, List.map_nil]); first | done | rfl | (simp only [List.length_drop, List.length_take]; rfl)) ?_; (with_reducible refine (laws_heldInt64S.calls kj29 _ _ t116 1 t125 _ ?side1 ?side2 A43.out).mono ?_); (case side1 => repeat (first | exact (Kd.R_reads' HO_7.out).2.2 | (with_reducible refine Kd.C_alloc ?_ _) | (with_reducible refine Kd.C_drewN ?_ _) | (with_reducible refine Kd.C_drew ?_))); (case side2 => exact (Kd.R_reads' HO_7.out).2.1); rintro e w' ⟨rfl, ⟨nd, rfl⟩⟩; refine ⟨_, rfl, ?_⟩))
                    go_ret
                    exact ⟨by first | rfl | (simp [errW_none, errW_some] <;> rfl) | (simp [*, errW_none, errW_some] <;> rfl), by repeat (first | (with_reducible first | exact HB.out | apply below_alloc | apply pw_below_drewN | apply below_drew1 | refine below_set ?_ GE101.out) | exact HB.out)⟩
                  · rw [if_neg c44] at H
                    have c44b0 : decide (t125 < 0) = false := decide_eq_false c44
                    clear c44
                    by_cases c45 : t125 = t115
                    · rw [if_pos c45] at H
                      have c45b0 : (t125 == t115) = true := beq_iff_eq.mpr c45
                      have c45b1 : (t125 != t115) = false := bne_eq_false_iff_eq.mpr c45
                      clear c45
                      obtain rfl := Option.some.inj H
                      go_wp2_with (first | ((with_reducible refine gate_callee (f := 27) rfl ?_); refine goesL_ (some 65) rfl rfl Try.func27 (by kernel_rfl) rfl #[.slice Ao31 t116.length co31, .int .i64 1] rfl (by (try simp only [List.map_toArray, List.map_cons, List.map_nil]); first | done | rfl | (simp only [List.length_drop, List.length_take]; rfl)) ?_; (with_reducible refine (laws_heldInt64S.calls kj29 _ _ t116 1 t125 _ ?side1 ?side2 A43.out).mono ?_); (case side1 => repeat (first | exact (Kd.R_reads' HO_7.out).2.2 | (with_reducible refine Kd.C_alloc ?_ _) | (with_reducible refine Kd.C_drewN ?_ _) | (with_reducible refine Kd.C_drew ?_))); (case side2 => exact (Kd.R_reads' HO_7.out).2.1); rintro e w' ⟨rfl, ⟨nd, rfl⟩⟩; refine ⟨_, rfl, ?_⟩))
                      go_ret
                      exact ⟨by first | rfl | (simp [errW_none, errW_some] <;> rfl) | (simp [*, errW_none, errW_some] <;> rfl), by repeat (first | (with_reducible first | exact HB.out | apply below_alloc | apply pw_below_drewN | apply below_drew1 | refine below_set ?_ GE101.out) | exact HB.out)⟩
                    · rw [if_neg c45] at H
                      have c45b0 : (t125 == t115) = false := beq_eq_false_iff_ne.mpr c45
                      have c45b1 : (t125 != t115) = true := bne_iff_ne.mpr c45
                      obtain rfl := Option.some.inj H
                      go_wp2_with (first | ((with_reducible refine gate_callee (f := 27) rfl ?_); refine goesL_ (some 65) rfl rfl Try.func27 (by kernel_rfl) rfl #[.slice Ao31 t116.length co31, .int .i64 1] rfl (by (try simp only [List.map_toArray, List.map_cons, List.map_nil]); first | done | rfl | (simp only [List.length_drop, List.length_take]; rfl)) ?_; (with_reducible refine (laws_heldInt64S.calls kj29 _ _ t116 1 t125 _ ?side1 ?side2 A43.out).mono ?_); (case side1 => repeat (first | exact (Kd.R_reads' HO_7.out).2.2 | (with_reducible refine Kd.C_alloc ?_ _) | (with_reducible refine Kd.C_drewN ?_ _) | (with_reducible refine Kd.C_drew ?_))); (case side2 => exact (Kd.R_reads' HO_7.out).2.1); rintro e w' ⟨rfl, ⟨nd, rfl⟩⟩; refine ⟨_, rfl, ?_⟩))
                      go_ret
                      exact ⟨by first | rfl | (simp [errW_none, errW_some] <;> rfl) | (simp [*, errW_none, errW_some] <;> rfl), by repeat (first | (with_reducible first | exact HB.out | apply below_alloc | apply pw_below_drewN | apply below_drew1 | refine below_set ?_ GE101.out) | exact HB.out)⟩
          · rw [if_neg c27] at H
            have c27b0 : (t117 == t115) = false := beq_eq_false_iff_ne.mpr c27
            have c27b1 : (t117 != t115) = true := bne_iff_ne.mpr c27
            obtain rfl := Option.some.inj H
            obtain ⟨Ao46, co46, eo46⟩ := Kd.R_slice HO_7.out
            subst eo46
            go_wp2_with (first | ((with_reducible refine gate_callee (f := 26) rfl ?_); refine goesL_ (some 38) rfl rfl Try.func26 (by kernel_rfl) rfl #[.slice Ao46 t110.length co46, .int .i64 1] rfl (by (try simp only [List.map_toArray, List.map_cons, List.map_nil]); first | done | rfl | (simp only [List.length_drop, List.length_take]; rfl)) ?_; (with_reducible refine (laws_markInt64S.calls kj6 (fun k_ => some k_ = (.slice Ao46 t110.length co46 : Value).ownBlock) (.slice Ao46 t110.length co46) t110 1 t115 t116 w _ ?side1 ?side2 A22.out).mono ?_); (case side1 => repeat (first | (with_reducible first | exact HB.out | apply below_alloc | apply pw_below_drewN | apply below_drew1 | refine below_set ?_ GE101.out) | exact HB.out)); (case side2 => exact Kd.R_tight rfl HO_7.out); rintro e w47 ⟨rfl, hy0, hb, hkp⟩; refine ⟨_, rfl, ?_⟩; have n0_ := Aside0.mk (Kd.R_mono (ok' := fun k_ => some k_ ≠ (.slice Ao46 t110.length co46 : Value).ownBlock) (Kd.R_keptB (HO_5.out) hkp (fun k_ hk_ hs_ => (hk_) hs_)) (fun k_ hk_ => hk_.1)); have n1_ := Aside0.mk (Kd.R_reok rfl hy0 (fun k_ e_ => HO_7.out.1 k_ e_)); have n2_ := Aside0.mk (blk_kept (by (with_reducible repeat (first | refine blk_drewN ?_ _ | refine blk_drew ?_ | refine blk_alloc ?_ _)); exact BK101.out) hkp (fun hs_ => (fun e_ => (Kd.R_ne HO_7.out BK101.out (by decide)) e_) hs_)); have n3_ := Aside0.mk (hb); clear HO_5; clear HO_7; clear BK101; clear HB; have HO_5 := n0_; have HO_7 := n1_; have BK101 := n2_; have HB := n3_; clear n0_ n1_ n2_ n3_; (try clear hb); (try clear hkp); (try clear hy0)) | ((with_reducible refine gate_callee (f := 27) rfl ?_); refine goesL_ (some 41) rfl rfl Try.func27 (by kernel_rfl) rfl #[.slice Ao46 t116.length co46, .int .i64 1] rfl (by (try simp only [List.map_toArray, List.map_cons, List.map_nil]); first | done | (rw [show t116.length = t110.length from (Kd.R_reads' HO_7.out).1.symm] <;> rfl) | rfl | (simp only [List.length_drop, List.length_take]; rfl)) ?_; (with_reducible refine (laws_heldInt64S.calls kj6 _ _ t116 1 t117 _ ?side1 ?side2 A23.out).mono ?_); (case side1 => repeat (first | exact (Kd.R_reads' HO_7.out).2.2 | (with_reducible refine Kd.C_alloc ?_ _) | (with_reducible refine Kd.C_drewN ?_ _) | (with_reducible refine Kd.C_drew ?_))); (case side2 => rw [show t116.length = t110.length from (Kd.R_reads' HO_7.out).1.symm]; exact (Kd.R_reads' HO_7.out).2.1); rintro e w' ⟨rfl, ⟨nd, rfl⟩⟩; refine ⟨_, rfl, ?_⟩))
            go_ret
            exact ⟨by first | rfl | (simp [errW_none, errW_some] <;> rfl) | (simp [*, errW_none, errW_some] <;> rfl), by repeat (first | (with_reducible first | exact HB.out | apply below_alloc | apply pw_below_drewN | apply below_drew1 | refine below_set ?_ GE101.out) | exact HB.out)⟩
/-- THE ONE PURE STATEMENT of laws_FnExactDistancesFrom. -/
def laws_FnExactDistancesFrom.Pure : Prop := ∀ (a0_0 : Int) (a0_1 : Int) (a1 : Int), okInt .i64 a0_0 → okInt .i64 a0_1 → okInt .i64 a1 → ∃ k, laws_FnExactDistancesFrom.f k a0_0 a0_1 a1 = some true
theorem laws_FnExactDistancesFrom.walk (P : laws_FnExactDistancesFrom.Pure) (a0_0 : Int) (a0_1 : Int) (a1 : Int) (w : World)  (w0_0 : okInt .i64 a0_0) (w0_1 : okInt .i64 a0_1) (w1 : okInt .i64 a1) :
    Calls Try.prog 7 #[.agg #[.int .i64 a0_0, .int .i64 a0_1], .int .i64 a1] w fun e w' => e = .returned (.bool true) ∧ Below w.heap.size w w' := by
  obtain ⟨k, h⟩ := P a0_0 a0_1 a1 w0_0 w0_1 w1
  refine (laws_FnExactDistancesFrom.calls k a0_0 a0_1 a1 true w h).mono ?_
  rintro e w' ⟨rfl, hd⟩
  exact ⟨rfl, hd⟩
end Go.Proofs.Ythcccgeeccjfiaa.P
end
section
namespace Go.Proofs.Ythcccgeeccjfiaa.Pure
open Go.RowKit Go.Proofs.Ythcccgeeccjfiaa.P Go.Proofs.YthcccgeeccjfiaaW.PrintWords Go.Proofs.YthcccgeeccjfiaaW.PrintLast Go.Proofs.YthcccgeeccjfiaaW.PrintMore
set_option linter.unusedVariables false
set_option linter.unusedSimpArgs false
theorem ev_pos {α : Type} {c : Prop} [Decidable c] {A B : Nat → Option α} {r : α} (h : c) (e : Ev A r) : Ev (fun n => if c then A n else B n) r := Ev.congr (fun n => if_pos h) e
theorem ev_neg {α : Type} {c : Prop} [Decidable c] {A B : Nat → Option α} {r : α} (h : ¬ c) (e : Ev B r) : Ev (fun n => if c then A n else B n) r := Ev.congr (fun n => if_neg h) e
theorem ev_now {α : Type} (r : α) : Ev (fun _ => some r) r := Ev.now r
theorem ev_bind {α β : Type} {g : Nat → Option α} {f : Nat → α → Option β} {a : α} {r : β} (h : Ev g a) (k : Ev (fun n => f n a) r) : Ev (fun n => (g n).bind (f n)) r := Ev.bind h k
theorem ev_fix {α β : Type} {g : Option α} {f : Nat → α → Option β} {a : α} {r : β} (h : g = some a) (k : Ev (fun n => f n a) r) : Ev (fun n => g.bind (f n)) r := by subst h; exact k
theorem ev_rounds {α : Type} {g : Nat → Option α} {r : α} (h : Ev g r) : ∃ k, g k = some r := h.rounds
theorem wrap_id {x : Int} (h1 : -9223372036854775808 ≤ x) (h2 : x ≤ 9223372036854775807) : wrap64 x = x := by unfold wrap64; omega
theorem wrap_succ {n : Nat} (h : n + 1 ≤ 9223372036854775807) : wrap64 ((n : Int) + 1) = ((n + 1 : Nat) : Int) := by rw [wrap_id (by omega) (by omega)]; omega
theorem rd_nat {l : List Int} {n : Nat} (h : n < l.length) : rd l (n : Int) = l[n] := by simp [rd, h]
end Go.Proofs.Ythcccgeeccjfiaa.Pure
end
section
namespace Go.Proofs.Ythcccgeeccjfiaa.Pure
open Go.RowKit Go.Proofs.Ythcccgeeccjfiaa.P Go.Proofs.YthcccgeeccjfiaaW.PrintWords Go.Proofs.YthcccgeeccjfiaaW.PrintLast Go.Proofs.YthcccgeeccjfiaaW.PrintMore
set_option linter.unusedVariables false
set_option linter.unusedSimpArgs false
/-- the digit of the road between two places -/
def roadOf (i j : Int) : Int := 2 ^ ((max i j) * ((max i j) - 1) / 2 + min i j).toNat
theorem six {i : Int} (h : 0 ≤ i ∧ i ≤ 5) : i = 0 ∨ i = 1 ∨ i = 2 ∨ i = 3 ∨ i = 4 ∨ i = 5 := by omega
theorem impl_road_f {i j : Int} (hi : 0 ≤ i ∧ i ≤ 5) (hj : 0 ≤ j ∧ j ≤ 5) (h : i ≠ j) : impl_road.f i j = some (roadOf i j) := by
  rcases six hi with rfl | rfl | rfl | rfl | rfl | rfl <;> rcases six hj with rfl | rfl | rfl | rfl | rfl | rfl <;> first | exact absurd rfl h | decide +kernel
theorem l09Road_f {i j : Int} (hi : 0 ≤ i ∧ i ≤ 5) (hj : 0 ≤ j ∧ j ≤ 5) (h : i ≠ j) : spec_l09Road.f i j = some (roadOf i j) := by
  rcases six hi with rfl | rfl | rfl | rfl | rfl | rfl <;> rcases six hj with rfl | rfl | rfl | rfl | rfl | rfl <;> first | exact absurd rfl h | decide +kernel
/-- Two places are near: the same, or joined. -/
def nearB (b i j : Int) : Bool := if i = j then true else Go.bits .and .i64 b (roadOf i j) != 0
theorem l09Near_f (a b : Int) {i j : Int} (hi : 0 ≤ i ∧ i ≤ 5) (hj : 0 ≤ j ∧ j ≤ 5) : spec_l09Near.f a b i j = some (nearB b i j) := by
  unfold spec_l09Near.f nearB
  by_cases h : i = j
  · rw [if_pos h, if_pos h]
  · rw [if_neg h, if_neg h, l09Road_f hi hj h, Option.bind_some]
end Go.Proofs.Ythcccgeeccjfiaa.Pure
end
section
namespace Go.Proofs.Ythcccgeeccjfiaa.Pure
open Go.RowKit Go.Proofs.Ythcccgeeccjfiaa.P Go.Proofs.YthcccgeeccjfiaaW.PrintWords Go.Proofs.YthcccgeeccjfiaaW.PrintLast Go.Proofs.YthcccgeeccjfiaaW.PrintMore
set_option linter.unusedVariables false
set_option linter.unusedSimpArgs false
theorem rd_set {l : List Int} {b i : Nat} {x : Int} (hb : b < l.length) : rd (l.set b x) (i : Nat) = if i = b then x else rd l (i : Nat) := by
  simp only [rd, Int.toNat_natCast, List.getD_eq_getElem?_getD, List.getElem?_set]
  by_cases h : b = i
  · subst h; simp [hb]
  · rw [if_neg h, if_neg (fun e => h e.symm)]
end Go.Proofs.Ythcccgeeccjfiaa.Pure
end
section
namespace Go.Proofs.Ythcccgeeccjfiaa.Pure
open Go.RowKit Go.Proofs.Ythcccgeeccjfiaa.P Go.Proofs.YthcccgeeccjfiaaW.PrintWords Go.Proofs.YthcccgeeccjfiaaW.PrintLast Go.Proofs.YthcccgeeccjfiaaW.PrintMore
set_option linter.unusedVariables false
set_option linter.unusedSimpArgs false
def neg : List Int → Nat
  | [] => 0
  | y :: l => (if y < 0 then 1 else 0) + neg l
theorem neg_set (v : Int) (hv : 0 ≤ v) : ∀ (l : List Int) (n : Nat) (h : n < l.length), l[n] < 0 → neg (l.set n v) + 1 = neg l := by
  intro l
  induction l with
  | nil => intro n h; simp at h
  | cons y l ih =>
    intro n h hn
    cases n with
    | zero =>
      simp only [List.getElem_cons_zero] at hn
      simp only [List.set_cons_zero, neg]
      rw [if_neg (by omega), if_pos hn]
      omega
    | succ n =>
      simp only [List.getElem_cons_succ] at hn
      simp only [List.set_cons_succ, neg]
      have := ih n (by simpa using h) hn
      omega
theorem neg_le (l : List Int) : neg l ≤ l.length := by
  induction l with
  | nil => simp [neg]
  | cons y l ih => simp only [neg, List.length_cons]; split <;> omega
def stepJ (b h : Int) (j : Nat) (s : List Int × List Int) : List Int × List Int := if rd s.1 (j : Int) < 0 ∧ nearB b h (j : Int) = true then (s.1.set j (rd s.1 h + 1), s.2 ++ [(j : Int)]) else s
def inJ (b h : Int) : Nat → Nat → List Int × List Int → List Int × List Int
  | 0, _, s => s
  | d + 1, j, s => inJ b h d (j + 1) (stepJ b h j s)
def bfsF (a : Nat) (b : Int) : Nat → Nat → List Int × List Int → List Int
  | 0, _, s => s.1
  | f + 1, k, s => if k < s.2.length then bfsF a b f (k + 1) (inJ b (rd s.2 (k : Int)) a 0 s) else s.1
def dist (a : Nat) (b : Int) (i : Nat) : List Int := bfsF a b (a + 1) 0 ((List.replicate a (-1)).set i 0, [(i : Int)])
structure Bfs (a : Nat) (s : List Int × List Int) : Prop where
  len : s.1.length = a
  mem : ∀ x ∈ s.2, 0 ≤ x ∧ x < (a : Int) ∧ 0 ≤ rd s.1 x
  hi : ∀ i : Nat, i < a → rd s.1 (i : Int) ≤ (s.2.length : Int)
  num : s.2.length + neg s.1 ≤ a
theorem Bfs.step {a : Nat} {b h : Int} {j : Nat} {s : List Int × List Int} (B : Bfs a s) (hj : j < a) (hh : 0 ≤ h ∧ h < (a : Int) ∧ 0 ≤ rd s.1 h) : Bfs a (stepJ b h j s) := by
  unfold stepJ
  split
  · next c =>
    have hl := B.len
    refine ⟨by rw [List.length_set]; exact hl, fun x hx => ?_, fun i hi => ?_, ?_⟩
    · rcases List.mem_append.1 hx with hx | hx
      · obtain ⟨h1, h2, h3⟩ := B.mem x hx
        obtain ⟨n, rfl⟩ : ∃ n : Nat, x = n := ⟨x.toNat, by omega⟩
        refine ⟨h1, h2, ?_⟩
        show 0 ≤ rd (s.1.set j _) (n : Int)
        rw [rd_set (by omega)]
        split <;> omega
      · rw [List.mem_singleton.1 hx]
        refine ⟨by omega, by omega, ?_⟩
        show 0 ≤ rd (s.1.set j _) (j : Int)
        rw [rd_set (by omega), if_pos rfl]
        omega
    · have h1 := B.hi i hi
      have h2 := B.hi h.toNat (by omega)
      rw [show ((h.toNat : Nat) : Int) = h by omega] at h2
      show rd (s.1.set j _) (i : Int) ≤ ((s.2 ++ [(j : Int)]).length : Int)
      rw [rd_set (by omega), List.length_append, List.length_singleton]
      split <;> omega
    · have c1 := c.1
      rw [rd_nat (by omega)] at c1
      have := neg_set (rd s.1 h + 1) (by omega) s.1 j (by omega) c1
      have := B.num
      show (s.2 ++ [(j : Int)]).length + neg (s.1.set j (rd s.1 h + 1)) ≤ a
      rw [List.length_append, List.length_singleton]
      omega
  · exact B
theorem stepJ_rd {b h : Int} {j : Nat} {s : List Int × List Int} (k : Nat) (hk : k < s.2.length) : rd (stepJ b h j s).2 (k : Int) = rd s.2 (k : Int) ∧ s.2.length ≤ (stepJ b h j s).2.length := by
  unfold stepJ
  split
  · refine ⟨?_, by simp⟩
    show rd (s.2 ++ [(j : Int)]) (k : Int) = _
    rw [rd_nat (by simp; omega), rd_nat hk, List.getElem_append_left hk]
  · exact ⟨rfl, Nat.le_refl _⟩
theorem stepJ_head {a : Nat} {b h : Int} {j : Nat} {s : List Int × List Int} (B : Bfs a s) (hj : j < a) (hh : 0 ≤ h ∧ h < (a : Int) ∧ 0 ≤ rd s.1 h) : 0 ≤ rd (stepJ b h j s).1 h := by
  unfold stepJ
  split
  · have hl := B.len
    obtain ⟨n, rfl⟩ : ∃ n : Nat, h = n := ⟨h.toNat, by omega⟩
    show 0 ≤ rd (s.1.set j _) (n : Int)
    rw [rd_set (by omega)]
    split <;> omega
  · exact hh.2.2
theorem Bfs.start {a i : Nat} (hi : i < a) : Bfs a ((List.replicate a (-1)).set i 0, [(i : Int)]) := by
  refine ⟨by simp, fun x hx => ?_, fun n hn => ?_, ?_⟩
  · rw [List.mem_singleton.1 hx]
    refine ⟨by omega, by omega, ?_⟩
    show 0 ≤ rd ((List.replicate a (-1)).set i 0) (i : Int)
    rw [rd_set (by simpa using hi), if_pos rfl]
    omega
  · show rd ((List.replicate a (-1)).set i 0) (n : Int) ≤ 1
    rw [rd_set (by simpa using hi)]
    split
    · omega
    · rw [rd_nat (by simpa using hn)]
      simp
  · show 1 + neg ((List.replicate a (-1)).set i 0) ≤ a
    have h1 := neg_set 0 (by omega) (List.replicate a (-1)) i (by simpa using hi) (by simp)
    have h2 := neg_le (List.replicate a (-1))
    rw [List.length_replicate] at h2
    omega
theorem joins_f (a b : Int) {i j : Int} (hi : 0 ≤ i ∧ i ≤ 5) (hj : 0 ≤ j ∧ j ≤ 5) (h : i ≠ j) : impl_Ground_joins.f a b i j = some (nearB b i j) := by
  unfold impl_Ground_joins.f nearB
  rw [if_neg h, if_neg h, impl_road_f hi hj h, Option.bind_some]
theorem spec_bfs_l2 (a : Nat) (b : Int) (ha : a ≤ 6) (k : Nat) (R : List Int) : ∀ d j : Nat, j + d = a → ∀ s : List Int × List Int, Bfs a s → k < s.2.length → 0 ≤ rd s.1 (rd s.2 (k : Int)) →
    Ev (fun q => spec_l09Distances.l1 q (inJ b (rd s.2 (k : Int)) d j s).1 (inJ b (rd s.2 (k : Int)) d j s).2 ((k + 1 : Nat) : Int) (a : Int) b) R →
    Ev (fun q => spec_l09Distances.l2 q s.1 s.2 (k : Int) (j : Int) (a : Int) b) R := by
  intro d
  induction d with
  | zero =>
    intro j hj s B hk h0 hR
    have hn := B.num
    refine Ev.step (fun q => by rw [spec_l09Distances.l2]) ?_
    rw [wrap_succ (n := k) (by omega)]
    exact ev_neg (by omega) hR
  | succ d ih =>
    intro j hj s B hk h0 hR
    have hl := B.len
    have hn := B.num
    have hm := B.mem (rd s.2 (k : Int)) (by rw [rd_nat hk]; exact List.getElem_mem hk)
    have hhi := B.hi (rd s.2 (k : Int)).toNat (by omega)
    rw [show (((rd s.2 (k : Int)).toNat : Nat) : Int) = rd s.2 (k : Int) by omega] at hhi
    have B' := B.step (b := b) (j := j) (by omega) hm
    have hS := stepJ_rd (b := b) (h := rd s.2 (k : Int)) (j := j) (s := s) k hk
    have hH := stepJ_head (b := b) (j := j) B (by omega) hm
    have ih := ih (j + 1) (by omega) (stepJ b (rd s.2 (k : Int)) j s) B' (by omega) (by rw [hS.1]; exact hH)
    rw [hS.1] at ih
    have ih := ih hR
    unfold stepJ at ih
    refine Ev.step (fun q => by rw [spec_l09Distances.l2]) ?_
    rw [wrap_succ (n := j) (by omega)]
    refine ev_pos (by omega) (ev_pos (by omega) (ev_pos (by omega) ?_))
    by_cases c : rd s.1 (j : Int) < 0
    · refine ev_pos c (ev_pos (by omega) (ev_pos (by omega) (ev_fix (l09Near_f _ _ (by omega) (by omega)) ?_)))
      cases hq : nearB b (rd s.2 (k : Int)) (j : Int) with
      | true =>
        rw [if_pos ⟨c, hq⟩] at ih
        refine ev_pos rfl (ev_pos (by omega) (ev_pos (by omega) (ev_pos (by omega) ?_)))
        rw [wrap_id (by omega) (by omega), Int.toNat_natCast]
        exact ih
      | false =>
        rw [if_neg (by rw [hq]; simp)] at ih
        exact ev_neg (by simp) ih
    · rw [if_neg (fun h => c h.1)] at ih
      exact ev_neg c ih
theorem Bfs.inner {a : Nat} {b h : Int} : ∀ d j : Nat, j + d = a → ∀ s : List Int × List Int, Bfs a s → (0 ≤ h ∧ h < (a : Int) ∧ 0 ≤ rd s.1 h) → Bfs a (inJ b h d j s) := by
  intro d
  induction d with
  | zero => intro j _ s B _; exact B
  | succ d ih => intro j hj s B hh; exact ih (j + 1) (by omega) _ (B.step (by omega) hh) ⟨hh.1, hh.2.1, stepJ_head B (by omega) hh⟩
theorem spec_bfs_l1 (a : Nat) (b : Int) (ha : a ≤ 6) : ∀ f k : Nat, ∀ s : List Int × List Int, Bfs a s → a < f + k →
    Ev (fun q => spec_l09Distances.l1 q s.1 s.2 (k : Int) (a : Int) b) (bfsF a b f k s) := by
  intro f
  induction f with
  | zero =>
    intro k s B hk
    have hn := B.num
    refine Ev.step (fun q => by rw [spec_l09Distances.l1]) ?_
    exact ev_neg (by omega) (ev_now _)
  | succ f ih =>
    intro k s B hk
    have hn := B.num
    refine Ev.step (fun q => by rw [spec_l09Distances.l1]) ?_
    rw [bfsF]
    by_cases c : k < s.2.length
    · have hm := B.mem (rd s.2 (k : Int)) (by rw [rd_nat c]; exact List.getElem_mem c)
      rw [if_pos c]
      exact ev_pos (by omega) (spec_bfs_l2 a b ha k _ a 0 (by omega) s B c hm.2.2 (ih (k + 1) _ (Bfs.inner a 0 (by omega) s B hm) (by omega)))
    · rw [if_neg c]
      exact ev_neg (by omega) (ev_now _)
theorem spec_bfs_l0 (a : Nat) (b : Int) (ha : a ≤ 6) (i : Nat) (hi : i < a) : ∀ d j : Nat, j + d = a →
    Ev (fun q => spec_l09Distances.l0 q (i : Int) (List.replicate j (-1) ++ List.replicate d 0) [(i : Int)] (a : Int) (j : Int) (a : Int) b) (dist a b i) := by
  intro d
  induction d with
  | zero =>
    intro j hj
    obtain rfl : j = a := by omega
    refine Ev.step (fun q => by rw [spec_l09Distances.l0]) ?_
    rw [List.replicate_zero, List.append_nil, Int.toNat_natCast]
    exact ev_neg (by omega) (ev_pos (by omega) (ev_pos (by rw [List.length_replicate]; omega) (spec_bfs_l1 j b ha (j + 1) 0 _ (Bfs.start hi) (by omega))))
  | succ d ih =>
    intro j hj
    refine Ev.step (fun q => by rw [spec_l09Distances.l0]) ?_
    rw [wrap_succ (by omega), Int.toNat_natCast]
    refine ev_pos (by omega) (ev_pos (by omega) (ev_pos (by rw [List.length_append, List.length_replicate, List.length_replicate]; omega) ?_))
    have e : (List.replicate j (-1 : Int) ++ List.replicate (d + 1) 0).set j (-1) = List.replicate (j + 1) (-1) ++ List.replicate d 0 := by
      rw [List.set_append_right _ _ (by simp), List.length_replicate, Nat.sub_self, List.replicate_succ, List.set_cons_zero, List.replicate_succ', List.append_assoc]
      rfl
    rw [e]
    exact ih (j + 1) (by omega)
theorem l09Distances_ev (a : Nat) (b : Int) (ha : a ≤ 6) (i : Nat) (hi : i < a) : Ev (fun q => spec_l09Distances.f q (a : Int) b (i : Int)) (dist a b i) := by
  unfold spec_l09Distances.f
  refine ev_pos (by omega) (ev_pos (by omega) ?_)
  refine ev_fix (a := List.replicate a 0) (by rw [Int.toNat_natCast]) ?_
  rw [List.length_replicate]
  exact spec_bfs_l0 a b ha i hi a 0 (by omega)
theorem drop_rd (l : List Int) (k : Nat) (h : k < l.length) : rd (l.drop k) 0 = rd l (k : Int) := by
  rw [show (0 : Int) = ((0 : Nat) : Int) from rfl, rd_nat (by rw [List.length_drop]; omega), rd_nat h, List.getElem_drop]
  rfl
theorem impl_bfs_l1 (a : Nat) (b : Int) (ha : a ≤ 6) (k : Nat) (R : List Int) : ∀ d j : Nat, j + d = a → ∀ s : List Int × List Int, Bfs a s → k < s.2.length → 0 ≤ rd s.1 (rd s.2 (k : Int)) →
    Ev (fun q => impl_Ground_distances.l0 q (inJ b (rd s.2 (k : Int)) d j s).1 ((inJ b (rd s.2 (k : Int)) d j s).2.drop (k + 1)) (a : Int) b) R →
    Ev (fun q => impl_Ground_distances.l1 q s.1 (s.2.drop k) (a : Int) (j : Int) (a : Int) b) R := by
  intro d
  induction d with
  | zero =>
    intro j hj s B hk h0 hR
    have hn := B.num
    refine Ev.step (fun q => by rw [impl_Ground_distances.l1]) ?_
    refine ev_neg (by omega) (ev_pos (by rw [List.length_drop]; omega) ?_)
    rw [List.drop_drop]
    exact hR
  | succ d ih =>
    intro j hj s B hk h0 hR
    have hl := B.len
    have hn := B.num
    have hm := B.mem (rd s.2 (k : Int)) (by rw [rd_nat hk]; exact List.getElem_mem hk)
    have hhi := B.hi (rd s.2 (k : Int)).toNat (by omega)
    rw [show (((rd s.2 (k : Int)).toNat : Nat) : Int) = rd s.2 (k : Int) by omega] at hhi
    have B' := B.step (b := b) (j := j) (by omega) hm
    have hS := stepJ_rd (b := b) (h := rd s.2 (k : Int)) (j := j) (s := s) k hk
    have hH := stepJ_head (b := b) (j := j) B (by omega) hm
    have ih := ih (j + 1) (by omega) (stepJ b (rd s.2 (k : Int)) j s) B' (by omega) (by rw [hS.1]; exact hH)
    rw [hS.1] at ih
    have ih := ih hR
    unfold stepJ at ih
    refine Ev.step (fun q => by rw [impl_Ground_distances.l1]) ?_
    rw [wrap_succ (n := j) (by omega), drop_rd _ _ hk]
    refine ev_pos (by omega) (ev_pos (by omega) (ev_pos (by omega) ?_))
    by_cases c : rd s.1 (j : Int) < 0
    · refine ev_pos c (ev_pos (by rw [List.length_drop]; omega) (ev_fix (joins_f _ _ (by omega) (by omega) (fun e => by rw [e] at h0; omega)) ?_))
      cases hq : nearB b (rd s.2 (k : Int)) (j : Int) with
      | true =>
        rw [if_pos ⟨c, hq⟩] at ih
        refine ev_pos rfl (ev_pos (by omega) (ev_pos (by omega) (ev_pos (by rw [List.length_drop]; omega) ?_)))
        rw [wrap_id (by omega) (by omega), Int.toNat_natCast]
        rw [List.drop_append_of_le_length (by omega)] at ih
        exact ih
      | false =>
        rw [if_neg (by rw [hq]; simp)] at ih
        exact ev_neg (by simp) ih
    · rw [if_neg (fun h => c h.1)] at ih
      exact ev_neg c ih
theorem impl_bfs_l0 (a : Nat) (b : Int) (ha : a ≤ 6) : ∀ f k : Nat, ∀ s : List Int × List Int, Bfs a s → a < f + k →
    Ev (fun q => impl_Ground_distances.l0 q s.1 (s.2.drop k) (a : Int) b) (bfsF a b f k s) := by
  intro f
  induction f with
  | zero =>
    intro k s B hk
    have hn := B.num
    refine Ev.step (fun q => by rw [impl_Ground_distances.l0]) ?_
    exact ev_neg (by rw [List.length_drop]; omega) (ev_now _)
  | succ f ih =>
    intro k s B hk
    have hn := B.num
    refine Ev.step (fun q => by rw [impl_Ground_distances.l0]) ?_
    rw [bfsF]
    by_cases c : k < s.2.length
    · have hm := B.mem (rd s.2 (k : Int)) (by rw [rd_nat c]; exact List.getElem_mem c)
      rw [if_pos c]
      exact ev_pos (by rw [List.length_drop]; omega) (impl_bfs_l1 a b ha k _ a 0 (by omega) s B c hm.2.2 (ih (k + 1) _ (Bfs.inner a 0 (by omega) s B hm) (by omega)))
    · rw [if_neg c]
      exact ev_neg (by rw [List.length_drop]; omega) (ev_now _)
theorem distances_ev (a : Nat) (b : Int) (ha : a ≤ 6) (i : Nat) (hi : i < a) : Ev (fun q => impl_Ground_distances.f q (a : Int) b (i : Int)) (dist a b i) := by
  unfold impl_Ground_distances.f
  refine ev_fix (a := List.replicate a (-1)) (by
    unfold slices_Repeat_Sint64_int64.f
    rw [if_pos ⟨rfl, by omega, by omega⟩, Int.toNat_natCast]
    rfl) ?_
  rw [Int.toNat_natCast]
  exact ev_pos (by omega) (ev_pos (by rw [List.length_replicate]; omega) (impl_bfs_l0 a b ha (a + 1) 0 _ (Bfs.start hi) (by omega)))
end Go.Proofs.Ythcccgeeccjfiaa.Pure
end
section
namespace Go.Proofs.Ythcccgeeccjfiaa.Pure
open Go.RowKit Go.Proofs.Ythcccgeeccjfiaa.P Go.Proofs.YthcccgeeccjfiaaW.PrintWords Go.Proofs.YthcccgeeccjfiaaW.PrintLast Go.Proofs.YthcccgeeccjfiaaW.PrintMore
set_option linter.unusedVariables false
set_option linter.unusedSimpArgs false
theorem l01In_f (n lo hi : Int) : spec_l01In.f n lo hi = some (decide (lo ≤ n ∧ n ≤ hi)) := by
  unfold spec_l01In.f
  by_cases h : n ≥ lo
  · rw [if_pos h]; simp [show lo ≤ n from h]
  · rw [if_neg h]; simp [show ¬ lo ≤ n from h]
end Go.Proofs.Ythcccgeeccjfiaa.Pure
end
section
namespace Go.Proofs.Ythcccgeeccjfiaa.P
open Go.RowKit Go.Proofs.YthcccgeeccjfiaaW.PrintWords Go.Proofs.YthcccgeeccjfiaaW.PrintLast Go.Proofs.YthcccgeeccjfiaaW.PrintMore
attribute [local go_sem] max2_int min2_int max_two min_two max_three min_three max_four min_four   -- for this text's walks alone
set_option linter.unusedVariables false
set_option linter.unusedSimpArgs false
theorem within_f (n lo hi : Int) : impl_within.f n lo hi = some (decide (lo ≤ n ∧ n ≤ hi)) := by
  unfold impl_within.f
  by_cases h : lo ≤ n
  · rw [if_pos h]; simp [h]
  · rw [if_neg h]; simp [h]
end Go.Proofs.Ythcccgeeccjfiaa.P
end
section
namespace Go.Proofs.Ythcccgeeccjfiaa.Pure
open Go.RowKit Go.Proofs.Ythcccgeeccjfiaa.P Go.Proofs.YthcccgeeccjfiaaW.PrintWords Go.Proofs.YthcccgeeccjfiaaW.PrintLast Go.Proofs.YthcccgeeccjfiaaW.PrintMore
set_option linter.unusedVariables false
set_option linter.unusedSimpArgs false
theorem dec_le_congr {b c d : Int} (h : c = d) : decide (0 ≤ b ∧ b ≤ c) = decide (0 ≤ b ∧ b ≤ d) := by rw [h]
/-- A ground: 1 to 6 places, and a number of roads that has a digit for each two of them. -/
def isGround (a b : Int) : Bool := decide (1 ≤ a ∧ a ≤ 6) && decide (0 ≤ b ∧ b ≤ 2 ^ (a * (a - 1) / 2).toNat - 1)
theorem l09Is_f (a b : Int) : spec_l09Is.f a b = some (isGround a b) := by
  unfold spec_l09Is.f
  rw [l01In_f, Option.bind_some]
  by_cases h : 1 ≤ a ∧ a ≤ 6
  · rw [decide_eq_true h, if_pos rfl]
    obtain rfl | rfl | rfl | rfl | rfl | rfl : a = 1 ∨ a = 2 ∨ a = 3 ∨ a = 4 ∨ a = 5 ∨ a = 6 := by omega
    all_goals
      rw [if_pos (by decide +kernel), l01In_f, Option.bind_some, isGround, decide_eq_true h, Bool.true_and]
      exact congrArg some (dec_le_congr (by decide +kernel))
  · rw [decide_eq_false h, if_neg (by simp), isGround, decide_eq_false h, Bool.false_and]
theorem IsGround_f (a b : Int) : impl_IsGround.f a b = some (isGround a b) := by
  unfold impl_IsGround.f
  rw [within_f, Option.bind_some]
  by_cases h : 1 ≤ a ∧ a ≤ 6
  · rw [decide_eq_true h, if_pos rfl]
    obtain rfl | rfl | rfl | rfl | rfl | rfl : a = 1 ∨ a = 2 ∨ a = 3 ∨ a = 4 ∨ a = 5 ∨ a = 6 := by omega
    all_goals
      rw [if_pos (by decide +kernel), within_f, Option.bind_some, isGround, decide_eq_true h, Bool.true_and]
      exact congrArg some (dec_le_congr (by decide +kernel))
  · rw [decide_eq_false h, if_neg (by simp), isGround, decide_eq_false h, Bool.false_and]
theorem isGround_lt {a b : Int} (h : isGround a b = true) : 1 ≤ a ∧ a ≤ 6 := by
  rw [isGround, Bool.and_eq_true] at h
  exact of_decide_eq_true h.1
end Go.Proofs.Ythcccgeeccjfiaa.Pure
end
section
namespace Go.Proofs.Ythcccgeeccjfiaa.Pure
open Go.RowKit Go.Proofs.Ythcccgeeccjfiaa.P Go.Proofs.YthcccgeeccjfiaaW.PrintWords Go.Proofs.YthcccgeeccjfiaaW.PrintLast Go.Proofs.YthcccgeeccjfiaaW.PrintMore
set_option linter.unusedVariables false
set_option linter.unusedSimpArgs false
theorem groundCode_f (a b : Int) (c : Bool) : impl_groundCode.f a b c = some (if isGround a b = true then (if c = true then 0 else 2) else 1) := by
  unfold impl_groundCode.f
  rw [IsGround_f, Option.bind_some]
  cases isGround a b <;> cases c <;> rfl
theorem isPlace_f (a b i : Int) : impl_Ground_isPlace.f a b i = some (decide (0 ≤ i ∧ i ≤ wrap64 (a - 1))) := by
  unfold impl_Ground_isPlace.f
  rw [within_f, Option.bind_some]
end Go.Proofs.Ythcccgeeccjfiaa.Pure
end
section
namespace Go.Proofs.Ythcccgeeccjfiaa.P
open Go.RowKit Go.Proofs.YthcccgeeccjfiaaW.PrintWords Go.Proofs.YthcccgeeccjfiaaW.PrintLast Go.Proofs.YthcccgeeccjfiaaW.PrintMore
attribute [local go_sem] max2_int min2_int max_two min_two max_three min_three max_four min_four   -- for this text's walks alone
set_option linter.unusedVariables false
set_option linter.unusedSimpArgs false
def laws_toInt64S.l0 : Nat → List Int → List Int → Int → Option (List Int)
  | 0, _, _, _ => none
  | k + 1, x0, x3, x4 => if x4 < (x0.length : Int) then (if 0 ≤ x4 then (if x4 < (x3.length : Int) then (laws_toInt64S.l0 k x0 (x3.set (x4 : Int).toNat (rd x0 x4)) (wrap64 (x4 + 1))) else (none)) else (none)) else (some x3)
def laws_toInt64S.f (k : Nat) (l0 : List Int) : Option (List Int) := if 0 ≤ (l0.length : Int) then (if ((l0.length : Int) : Int).toNat ≤ 35184372088832 then (laws_toInt64S.l0 k l0 (List.replicate ((l0.length : Int) : Int).toNat 0) 0) else (none)) else (none)
theorem laws_toInt64S.mono_l : ∀ k, (∀ y0 y1 y2, LeO (laws_toInt64S.l0 k y0 y1 y2) (laws_toInt64S.l0 (k + 1) y0 y1 y2))
  | 0 => fun _ _ _ r h => by simp [laws_toInt64S.l0] at h
  | k + 1 => by
    have ih0 := laws_toInt64S.mono_l k
    · intro y0 y1 y2
      unfold laws_toInt64S.l0
      repeat' first
      | (with_reducible exact ih0 _ _ _)
      | (with_reducible exact LeO.refl _)
      | (with_reducible exact LeO.none _)
      | (with_reducible refine LeO.ite ?_ ?_)
      | (with_reducible refine LeO.bind ?_ (fun _ => ?_))
      | exact ih0 _ _ _
      | exact LeO.none _
      | refine LeO.ite ?_ ?_
      | refine LeO.bind ?_ (fun _ => ?_)
theorem laws_toInt64S.mono : ∀ a0 k, LeO (laws_toInt64S.f k a0) (laws_toInt64S.f (k + 1) a0) := by
  intro a0 k
  have ih0 := laws_toInt64S.mono_l k
  unfold laws_toInt64S.f
  repeat' first
      | (with_reducible exact ih0 _ _ _)
      | (with_reducible exact LeO.refl _)
      | (with_reducible exact LeO.none _)
      | (with_reducible refine LeO.ite ?_ ?_)
      | (with_reducible refine LeO.bind ?_ (fun _ => ?_))
      | exact ih0 _ _ _
      | exact LeO.none _
      | refine LeO.ite ?_ ?_
      | refine LeO.bind ?_ (fun _ => ?_)
end Go.Proofs.Ythcccgeeccjfiaa.P
end
section
namespace Go.Proofs.Ythcccgeeccjfiaa.Pure
open Go.RowKit Go.Proofs.Ythcccgeeccjfiaa.P Go.Proofs.YthcccgeeccjfiaaW.PrintWords Go.Proofs.YthcccgeeccjfiaaW.PrintLast Go.Proofs.YthcccgeeccjfiaaW.PrintMore
set_option linter.unusedVariables false
set_option linter.unusedSimpArgs false
theorem eqInt64S_l0 (l : List Int) (hl : l.length ≤ 9223372036854775807) : ∀ d n : Nat, n + d = l.length → Ev (fun k => laws_eqInt64S.l0 k l l (n : Int)) true := by
  intro d
  induction d with
  | zero =>
    intro n hn
    refine Ev.step (fun k => by rw [laws_eqInt64S.l0]) ?_
    exact ev_neg (by omega) (ev_now true)
  | succ d ih =>
    intro n hn
    refine Ev.step (fun k => by rw [laws_eqInt64S.l0]) ?_
    refine ev_pos (by omega) (ev_pos (by omega) (ev_pos (by omega) (ev_pos rfl ?_)))
    rw [wrap_succ (by omega)]
    exact ih (n + 1) (by omega)
/-- eqInt64S says that a list is itself. -/
theorem eqInt64S_ev (l : List Int) (hl : l.length ≤ 9223372036854775807) : Ev (fun k => laws_eqInt64S.f k l l) true := by
  unfold laws_eqInt64S.f
  exact ev_pos rfl (eqInt64S_l0 l hl l.length 0 (by omega))
end Go.Proofs.Ythcccgeeccjfiaa.Pure
end
section
namespace Go.Proofs.Ythcccgeeccjfiaa.Pure
open Go.RowKit Go.Proofs.Ythcccgeeccjfiaa.P Go.Proofs.YthcccgeeccjfiaaW.PrintWords Go.Proofs.YthcccgeeccjfiaaW.PrintLast Go.Proofs.YthcccgeeccjfiaaW.PrintMore
set_option linter.unusedVariables false
set_option linter.unusedSimpArgs false
/-- the numbers from m on -/
def upFrom (m : Int) : Nat → List Int
  | 0 => []
  | n + 1 => m :: upFrom (m + 1) n
theorem upFrom_length (n : Nat) : ∀ m, (upFrom m n).length = n := by
  induction n with
  | zero => intro m; rfl
  | succ n ih => intro m; simp [upFrom, ih]
theorem upFrom_get (n : Nat) : ∀ (m : Int) (j : Nat), j < n → (upFrom m n)[j]? = some (m + j) := by
  induction n with
  | zero => intro m j h; omega
  | succ n ih =>
    intro m j h
    cases j with
    | zero => simp [upFrom]
    | succ j => simp only [upFrom, List.getElem?_cons_succ]; rw [ih (m + 1) j (by omega)]; congr 1; omega
theorem upFrom_succ (n : Nat) (m : Int) : upFrom m (n + 1) = upFrom m n ++ [m + n] := by
  apply List.ext_getElem?
  intro j
  rcases Nat.lt_or_ge j n with h | h
  · rw [upFrom_get _ _ _ (by omega), List.getElem?_append_left (by rw [upFrom_length]; exact h), upFrom_get _ _ _ h]
  · rw [List.getElem?_append_right (by rw [upFrom_length]; exact h), upFrom_length]
    rcases Nat.eq_or_lt_of_le h with rfl | h
    · rw [upFrom_get _ _ _ (by omega)]; simp
    · rw [List.getElem?_eq_none (by rw [upFrom_length]; omega), List.getElem?_eq_none (by simp; omega)]
theorem markInt64S_l0 (l : List Int) (m : Int) (h0 : 0 ≤ m) (hl : m + l.length ≤ 9223372036854775807) : ∀ d n : Nat, n + d = l.length → Ev (fun k => laws_markInt64S.l0 k (upFrom m n ++ l.drop n) (m + n) (n : Int)) (m + l.length, upFrom m l.length) := by
  intro d
  induction d with
  | zero =>
    intro n hn
    refine Ev.step (fun k => by rw [laws_markInt64S.l0]) ?_
    refine ev_neg (by rw [List.length_append, upFrom_length, List.length_drop]; omega) ?_
    rw [List.drop_of_length_le (by omega), List.append_nil, show n = l.length by omega]
    exact ev_now _
  | succ d ih =>
    intro n hn
    have hlt : n < l.length := by omega
    refine Ev.step (fun k => by rw [laws_markInt64S.l0]) ?_
    refine ev_pos (by rw [List.length_append, upFrom_length, List.length_drop]; omega) (ev_pos (by omega) ?_)
    rw [wrap_succ (by omega), wrap_id (x := m + n + 1) (by omega) (by omega), Int.toNat_natCast]
    have e : (upFrom m n ++ l.drop n).set n (m + n) = upFrom m (n + 1) ++ l.drop (n + 1) := by
      rw [List.set_append_right _ _ (by rw [upFrom_length]; omega), upFrom_length, Nat.sub_self, List.drop_eq_getElem_cons hlt, List.set_cons_zero, upFrom_succ, List.append_assoc]
      rfl
    rw [e, show m + (n : Int) + 1 = m + ((n + 1 : Nat) : Int) by omega]
    exact ih (n + 1) (by omega)
theorem markInt64S_ev (l : List Int) (m : Int) (h0 : 0 ≤ m) (hl : m + l.length ≤ 9223372036854775807) : Ev (fun k => laws_markInt64S.f k l m) (m + l.length, upFrom m l.length) := by
  unfold laws_markInt64S.f
  have h := markInt64S_l0 l m h0 hl l.length 0 (by omega)
  simpa [upFrom] using h
theorem heldInt64S_l0 (m : Int) (h0 : 0 ≤ m) (N : Nat) (hl : m + N ≤ 9223372036854775807) : ∀ d n : Nat, n + d = N → Ev (fun k => laws_heldInt64S.l0 k (upFrom m N) (m + n) (n : Int)) (m + N) := by
  intro d
  induction d with
  | zero =>
    intro n hn
    refine Ev.step (fun k => by rw [laws_heldInt64S.l0]) ?_
    refine ev_neg (by rw [upFrom_length]; omega) ?_
    rw [show n = N by omega]
    exact ev_now _
  | succ d ih =>
    intro n hn
    refine Ev.step (fun k => by rw [laws_heldInt64S.l0]) ?_
    refine ev_pos (by rw [upFrom_length]; omega) (ev_pos (by omega) (ev_pos ?_ ?_))
    · have h := upFrom_get N m n (by omega)
      simp [rd, h]
    · rw [wrap_succ (by omega), wrap_id (x := m + n + 1) (by omega) (by omega), show m + (n : Int) + 1 = m + ((n + 1 : Nat) : Int) by omega]
      exact ih (n + 1) (by omega)
theorem heldInt64S_ev (m : Int) (h0 : 0 ≤ m) (N : Nat) (hl : m + N ≤ 9223372036854775807) : Ev (fun k => laws_heldInt64S.f k (upFrom m N) m) (m + N) := by
  unfold laws_heldInt64S.f
  have h := heldInt64S_l0 m h0 N hl N 0 (by omega)
  simpa using h
end Go.Proofs.Ythcccgeeccjfiaa.Pure
end
section
namespace Go.Proofs.Ythcccgeeccjfiaa.Pure
open Go.RowKit Go.Proofs.Ythcccgeeccjfiaa.P Go.Proofs.YthcccgeeccjfiaaW.PrintWords Go.Proofs.YthcccgeeccjfiaaW.PrintLast Go.Proofs.YthcccgeeccjfiaaW.PrintMore
set_option linter.unusedVariables false
set_option linter.unusedSimpArgs false
def distR (a b i : Int) : List Int × Int := if isGround a b = true then (if 0 ≤ i ∧ i ≤ wrap64 (a - 1) then (dist a.toNat b i.toNat, 0) else ([], 2)) else ([], 1)
theorem bfsF_length (a : Nat) (b : Int) : ∀ f k s, (bfsF a b f k s).length = s.1.length := by
  have hs : ∀ h j s, (stepJ b h j s).1.length = s.1.length := fun h j s => by
    unfold stepJ
    split
    · exact List.length_set
    · rfl
  have hi : ∀ h d j s, (inJ b h d j s).1.length = s.1.length := fun h d => by
    induction d with
    | zero => intro j s; rfl
    | succ d ih => intro j s; rw [inJ, ih, hs]
  intro f
  induction f with
  | zero => intro k s; rfl
  | succ f ih =>
    intro k s
    rw [bfsF]
    split
    · rw [ih, hi]
    · rfl
theorem distR_length (a b i : Int) : (distR a b i).1.length ≤ 6 := by
  unfold distR
  split
  · next h =>
    have := isGround_lt h
    split
    · show (dist a.toNat b i.toNat).length ≤ 6
      unfold dist
      rw [bfsF_length, List.length_set, List.length_replicate]
      omega
    · simp
  · simp
theorem DistancesFrom_spec (a b i : Int) : Ev (fun k => spec_DistancesFrom.f k a b i) (distR a b i) := by
  unfold spec_DistancesFrom.f distR
  refine ev_bind (a := if isGround a b = true then (if 0 ≤ i ∧ i ≤ wrap64 (a - 1) then 0 else 2) else 1) ?_ ?_
  · unfold spec_l09Places.f
    refine ev_fix (l09Is_f a b) ?_
    cases h : isGround a b with
    | false => exact ev_neg (by simp) (ev_now _)
    | true =>
      refine ev_pos rfl ?_
      refine Ev.step (fun k => by rw [spec_l09Places.l0]) ?_
      refine ev_pos (by simp) (ev_pos (by omega) (ev_fix (l01In_f _ _ _) ?_))
      rw [if_pos rfl, show rd [i] 0 = i from rfl]
      by_cases c : 0 ≤ i ∧ i ≤ wrap64 (a - 1)
      · rw [if_pos c]
        refine ev_pos (decide_eq_true c) ?_
        refine Ev.step (fun k => by rw [spec_l09Places.l0]) ?_
        exact ev_neg (by rw [wrap_id (by omega) (by omega)]; simp) (ev_now _)
      · rw [if_neg c]
        exact ev_neg (by rw [decide_eq_false c]; simp) (ev_now _)
  · cases h : isGround a b with
    | false => exact ev_neg (by simp) (ev_now _)
    | true =>
      have hg := isGround_lt h
      rw [if_pos rfl]
      by_cases c : 0 ≤ i ∧ i ≤ wrap64 (a - 1)
      · rw [if_pos c, if_pos rfl, if_pos c]
        rw [wrap_id (by omega) (by omega)] at c
        obtain ⟨n, rfl⟩ : ∃ n : Nat, a = n := ⟨a.toNat, by omega⟩
        obtain ⟨m, rfl⟩ : ∃ m : Nat, i = m := ⟨i.toNat, by omega⟩
        exact ev_pos rfl (ev_bind (l09Distances_ev n b (by omega) m (by omega)) (ev_now _))
      · rw [if_neg c, if_pos rfl, if_neg c]
        exact ev_neg (by simp) (ev_now _)
theorem DistancesFrom_impl (a b i : Int) : Ev (fun k => impl_DistancesFrom.f k a b i) (distR a b i) := by
  unfold impl_DistancesFrom.f distR
  refine ev_fix (isPlace_f a b i) (ev_fix (groundCode_f a b _) ?_)
  cases h : isGround a b with
  | false => exact ev_neg (by simp) (ev_now _)
  | true =>
    have hg := isGround_lt h
    rw [if_pos rfl, if_pos rfl]
    by_cases c : 0 ≤ i ∧ i ≤ wrap64 (a - 1)
    · rw [if_pos c, decide_eq_true c, if_pos rfl]
      rw [wrap_id (by omega) (by omega)] at c
      obtain ⟨n, rfl⟩ : ∃ n : Nat, a = n := ⟨a.toNat, by omega⟩
      obtain ⟨m, rfl⟩ : ∃ m : Nat, i = m := ⟨i.toNat, by omega⟩
      exact ev_pos rfl (ev_bind (distances_ev n b (by omega) m (by omega)) (ev_now _))
    · rw [if_neg c, decide_eq_false c]
      exact ev_neg (by simp) (ev_now _)
theorem DistancesFrom_j1 (N : Nat) (hN : 1 + (N : Int) ≤ 9223372036854775807) : Ev (fun k => laws_FnExactDistancesFrom.j1 k (upFrom 1 N) (1 + N) false) true := by
  refine Ev.step (fun k => by rw [laws_FnExactDistancesFrom.j1]) ?_
  refine ev_neg (by simp) (ev_bind (heldInt64S_ev 1 (by omega) N hN) ?_)
  exact ev_neg (by omega) (ev_pos rfl (ev_now _))
theorem DistancesFrom_j0 (a b i : Int) : Ev (fun k => laws_FnExactDistancesFrom.j0 k i (distR a b i).1 (distR a b i).2 (distR a b i).1 false a b) true := by
  have hr := distR_length a b i
  refine Ev.step (fun k => by rw [laws_FnExactDistancesFrom.j0]) ?_
  refine ev_neg (by simp) (ev_bind (markInt64S_ev _ 1 (by omega) (by omega)) (ev_bind (heldInt64S_ev 1 (by omega) _ (by omega)) ?_))
  refine ev_neg (by omega) (ev_pos rfl (ev_fix (show laws_toGround.f a b = some (a, b) from rfl) (ev_bind (DistancesFrom_impl a b i) (ev_bind (eqInt64S_ev _ (by omega)) (ev_pos rfl ?_)))))
  rw [bne_self_eq_false]
  exact DistancesFrom_j1 _ (by omega)
theorem FnExactDistancesFrom : laws_FnExactDistancesFrom.Pure := by
  intro a b i _ _ _
  refine ev_rounds (g := fun k => laws_FnExactDistancesFrom.f k a b i) ?_
  unfold laws_FnExactDistancesFrom.f
  have hr := distR_length a b i
  refine ev_fix (show laws_toGround.f a b = some (a, b) from rfl) (ev_bind (DistancesFrom_spec a b i) (ev_fix (show laws_toGround.f a b = some (a, b) from rfl) (ev_bind (DistancesFrom_impl a b i) (ev_bind (eqInt64S_ev _ (by omega)) (ev_pos rfl ?_)))))
  rw [bne_self_eq_false]
  exact DistancesFrom_j0 a b i
end Go.Proofs.Ythcccgeeccjfiaa.Pure
end
section
namespace Go.Proofs.Ythcccgeeccjfiaa.fnExactDistancesFrom
open Go.ChangeShapes Go.WideShapes Go.ChangeAt Go.RowKit Go.Deep Go.Proofs.Ythcccgeeccjfiaa.P
open Go.ChangeMaps (open_string shut_string)
set_option linter.unusedVariables false
theorem own : ownKnob Try.prog.godebug = none := by kernel_rfl
theorem laidOut : laidOutB Try.prog = true := by kernel_rfl
set_option maxRecDepth 100000 in
theorem lifted (os : Os) (started : os.Started) (H : Type) (enc : TypeId × Value → H) :
    ReturnsInHanded {} Try.checked os 7 .any (Rows.fnExactDistancesFromSpec.pre6 enc Try.prog Try.f7 Rows.fnExactDistancesFromRow.domain false) (Rows.fnExactDistancesFromSpec.post enc Try.prog Try.f7 false true false false) := by
  refine returnsInHanded_of_change_sized (C := Try.checked) own started (by kernel_rfl) Try.func7
    (ChangeSpec.witness6 (enc := enc) (C := Try.checked) false ⟨#[], #[.agg #[.int .i64 0, .int .i64 0], .int .i64 0], []⟩ 8 (by kernel_rfl) (by kernel_rfl) (by kernel_rfl) (by kernel_rfl)) ?_
  intro W base args ds gs before hval0 hW hcnd hsz0 _
  have hsz : (DataW.weightsEach Try.prog (Try.f7.params.toList ++ Rows.fnExactDistancesFromSpec.plain.varTypes Try.prog) (ds ++ gs)).all (· ≤ reachBytes) = true := hsz0
  have hval : ∀ (j : Nat) t v, Try.f7.params[j]? = some t → args[j]? = some v → Value.okWide Try.prog W .any base t v := hval0
  have hW' := hW
  obtain ⟨p, q, hA0, hV, rfl, hfz, hnd⟩ := hW
  have hA : DataW.TrodAll enc Try.prog W 0 (fun _ => true) true Try.f7.params.toList args.toList ds p := hA0
  rw [Try.params7] at hA hval hsz
  obtain ⟨v0, vs0, d0, ds0, p0, q0, hargs, rfl, rfl, h0, r0⟩ := trodAll_cons hA
  obtain ⟨v1, vs1, d1, ds1, p1, q1, rfl, rfl, rfl, h1, r1⟩ := trodAll_cons r0
  obtain ⟨rfl, rfl, rfl⟩ := trodAll_nil r1
  obtain rfl : args = #[v0, v1] := by cases args; simp_all
  obtain ⟨rfl, rfl⟩ := trodVars_none hV
  have k0 := h0
  have lt0 : ∀ x ∈ p0, x.block < W.heap.size := by obtain ⟨m, hm⟩ := k0; exact DataW.trod_lt m _ _ _ hm
  obtain ⟨v0_0, v0_1, y0_0, y0_1, n0, rfl, t0_0, t0_1⟩ := agg2 Try.underlying44 (by kernel_rfl) (by kernel_rfl) (hval 0 44 v0 rfl rfl) h0
  obtain ⟨a0_0, e0_0, w0_0⟩ := open_cell (opens_int Try.underlying2) t0_0
  obtain rfl := int_cell e0_0
  obtain ⟨a0_1, e0_1, w0_1⟩ := open_cell (opens_int Try.underlying2) t0_1
  obtain rfl := int_cell e0_1
  obtain ⟨a1, rfl, rfl, rfl, w1⟩ := open_int Try.underlying2 (hval 1 2 v1 rfl rfl) h1
  clear hA0 hval0 hsz0 hsz
  refine (P.laws_FnExactDistancesFrom.walk Pure.FnExactDistancesFrom a0_0 a0_1 a1 W  w0_0 w0_1 w1).mono fun e W' ⟨he, bel⟩ => ?_
  subst he
  exact ⟨_, rfl, _, _, _, [], _, [], hW', trodAll_mk1 (shut_bool Try.underlying4 _), (trodAll_cons_mk (Below.trod laidOut (by kernel_rfl) (of_decide_eq_true (by kernel_rfl)) k0 bel lt0) (trodAll_cons_mk (shut_int Try.underlying2 w1) trodAll_mk0)), rfl, bel.frame _, fun h => by cases h⟩
theorem over : Rows.fnExactDistancesFromRow.holds Try.pinned (OpenSpec.ofChange Rows.fnExactDistancesFromSpec) :=
  OpenClaim.holds_of_wide 7 Try.f7 rfl rfl rfl rfl rfl rfl rfl ⟨rfl, rfl, rfl, rfl, rfl⟩ rfl rfl rfl rfl rfl (by kernel_rfl) Try.func7 (by kernel_rfl)
    (of_decide_eq_true (by kernel_rfl)) (by unfold Func.isWrapper; first | (rw [if_pos (by decide +kernel)]; kernel_rfl) | (rw [if_neg (by decide +kernel)]; exact ⟨rfl, rfl⟩))
    (fun os started H enc _ => lifted os started H enc)
theorem proved : Rows.FnExactDistancesFromSaid := over
end Go.Proofs.Ythcccgeeccjfiaa.fnExactDistancesFrom
namespace Go.Proofs.Ythcccgeeccjfiaa
/-- The row, under a short name, for the claim. -/
theorem fnExactDistancesFrom_holds : Rows.FnExactDistancesFromSaid := fnExactDistancesFrom.proved
end Go.Proofs.Ythcccgeeccjfiaa
end
