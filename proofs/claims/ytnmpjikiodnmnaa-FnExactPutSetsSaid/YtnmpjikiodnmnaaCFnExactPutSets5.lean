/- The program's PutSets returns what the reference's returns, for all sets; no condition beside. -/
import Derived.Test.YtnmpjikiodnmnaaCFnExactPutSets4
section
namespace Go.Proofs.Ytnmpjikiodnmnaa.P
open Go.RowKit Go.Proofs.YtnmpjikiodnmnaaW.PrintWords Go.Proofs.YtnmpjikiodnmnaaW.PrintLast Go.Proofs.YtnmpjikiodnmnaaW.PrintMore
attribute [local go_sem] max2_int min2_int max_two min_two max_three min_three max_four min_four   -- for this text's walks alone
set_option linter.unusedVariables false
set_option linter.unusedSimpArgs false
set_option maxHeartbeats 8000000 in
set_option maxRecDepth 100000 in
theorem impl_PutSets.calls (k : Nat) (a0 : Int) (a1 : Int) (A2 : Option Addr) (c2 : Nat) (l2 : List Int) (r1 : List (List Int)) (r2 : Int) (w : World) (hr2 : Kd.C (Kd.int .i64) w A2 l2.length l2) (hc2 : l2.length ≤ c2) (h : impl_PutSets.f k a0 a1 l2 = some (r1, r2)) :
    Calls Try.prog 7 #[.int .i64 a0, .int .i64 a1, .slice A2 l2.length c2] w fun e w' => ∃ v0_ : Value, e = .returned (.tuple #[v0_, .int .i64 r2]) ∧ Kd.S (Kd.slice 2 (Kd.int .i64)) 22 w' w.heap.size (fun _ => True) v0_ r1 ∧ Below w.heap.size w w' := by
  have HR2 := Aside0.mk hr2
  have HC2 := Aside0.mk hc2
  clear hr2 hc2
  have HB := Aside0.mk (Below.refl w.heap.size w)
  have H : ((impl_isMany.f a0).bind fun t103 => (if t103 = true then ((impl_isChannels.f a1).bind fun t104 => (if t104 = true then ((impl_length_int64.f l2).bind fun t105 => ((impl_within.f t105 1 120).bind fun t106 => (if t106 = true then ((impl_PutSets_1.f l2 a0 a1).bind fun t107 => (impl_PutSets.j0 k l2 (!t107) a0 a1)) else (impl_PutSets.j0 k l2 true a0 a1)))) else (impl_PutSets.j0 k l2 true a0 a1))) else (impl_PutSets.j0 k l2 true a0 a1))) = some (r1, r2) := h
  clear h
  have HC4 := Aside0.mk H
  clear H
  go_enter Try.func7, Try.ntmps7
  go_upto_region 1 with (first | ((with_reducible refine gate_dst (N := 3) rfl ?_); refine box_event ?hg (N := 3) ?hd (cs := #[.int .i64 a0]) (t := 2) ?hr ?_; (case hd => rfl); (case hg => rfl); (case hr => first | (go_simp; done) | (go_simp; rfl)); intro gb101 hg w5 hbox hb; have n0_ := Aside0.mk (below_step (by repeat (first | (with_reducible first | exact HB.out | apply below_alloc | apply pw_below_drewN | apply below_drew1) | exact HB.out)) hb); have n1_ := Aside0.mk (hbox); have n2_ := Aside0.mk ((by rw [hg]; exact (below_size (by repeat (first | (with_reducible first | exact HB.out | apply below_alloc | apply pw_below_drewN | apply below_drew1) | exact HB.out))) : w.heap.size ≤ gb101)); have n3_ := Aside0.mk ((by rw [hg]; exact (below_size (by repeat (first | (with_reducible first | exact HB.out | apply below_alloc | apply pw_below_drewN | apply below_drew1) | exact HB.out))) : w.heap.size ≤ gb101)); clear HB; have HB := n0_; have BK101 := n1_; have GW101 := n2_; have GE101 := n3_; clear n0_ n1_ n2_ n3_; clear hb hbox hg) | ((with_reducible refine gate_dst (N := 4) rfl ?_); refine box_event ?hg (N := 4) ?hd (cs := #[.int .i64 a1]) (t := 2) ?hr ?_; (case hd => rfl); (case hg => rfl); (case hr => first | (go_simp; done) | (go_simp; rfl)); intro gb102 hg w6 hbox hb; have n0_ := Aside0.mk (blk_below (g := gb101) (o := .cells #[.int .i64 a0] 2 (0, 0)) (by (with_reducible repeat (first | refine blk_drewN ?_ _ | refine blk_drew ?_ | refine blk_alloc ?_ _)); exact BK101.out) hb); have n1_ := Aside0.mk (below_step (by repeat (first | (with_reducible first | exact HB.out | apply below_alloc | apply pw_below_drewN | apply below_drew1 | refine below_set ?_ GE101.out) | exact HB.out)) hb); have n2_ := Aside0.mk (hbox); have n3_ := Aside0.mk ((by rw [hg]; exact (below_size (by repeat (first | (with_reducible first | exact HB.out | apply below_alloc | apply pw_below_drewN | apply below_drew1 | refine below_set ?_ GE101.out) | exact HB.out))) : w.heap.size ≤ gb102)); have n4_ := Aside0.mk ((by rw [hg]; exact (below_size (by repeat (first | (with_reducible first | exact HB.out | apply below_alloc | apply pw_below_drewN | apply below_drew1 | refine below_set ?_ GE101.out) | exact HB.out))) : w.heap.size ≤ gb102)); have n5_ := Aside0.mk ((by rw [hg]; exact Nat.ne_of_lt (blk_lt (g := gb101) (o := .cells #[.int .i64 a0] 2 (0, 0)) (by (with_reducible repeat (first | refine blk_drewN ?_ _ | refine blk_drew ?_ | refine blk_alloc ?_ _)); exact BK101.out)) : gb101 ≠ gb102)); have n6_ := Aside0.mk ((by rw [hg]; exact Nat.ne_of_gt (blk_lt (g := gb101) (o := .cells #[.int .i64 a0] 2 (0, 0)) (by (with_reducible repeat (first | refine blk_drewN ?_ _ | refine blk_drew ?_ | refine blk_alloc ?_ _)); exact BK101.out)) : gb102 ≠ gb101)); clear BK101; clear HB; have BK101 := n0_; have HB := n1_; have BK102 := n2_; have GW102 := n3_; have GE102 := n4_; have NB101_102 := n5_; have NB102_101 := n6_; clear n0_ n1_ n2_ n3_ n4_ n5_ n6_; clear hb hbox hg))
  (try simp only [Act.put, List.setIfInBounds_toArray, List.set_cons_zero, List.set_cons_succ])
  go_cut [38] (fun v38 wc => ∃ (kq : Nat) (x38_3 : Bool), v38 = .bool x38_3 ∧ Aside0 (impl_PutSets.j0 kq l2 x38_3 a0 a1 = some (r1, r2)) ∧ Aside0 (kq ≤ k) ∧ Aside0 (wc.heap[gb101]? = some (.cells #[.int .i64 a0] 2 (0, 0))) ∧ Aside0 (wc.heap[gb102]? = some (.cells #[.int .i64 a1] 2 (0, 0))) ∧ Aside0 (Below w.heap.size w wc))
  case first =>
    have H := HC4.out
    clear HC4
    replace H := Option.bind_eq_some_iff.mp H
    obtain ⟨t103, A70, H⟩ := H
    replace H : (if t103 = true then ((impl_isChannels.f a1).bind fun t104 => (if t104 = true then ((impl_length_int64.f l2).bind fun t105 => ((impl_within.f t105 1 120).bind fun t106 => (if t106 = true then ((impl_PutSets_1.f l2 a0 a1).bind fun t107 => (impl_PutSets.j0 k l2 (!t107) a0 a1)) else (impl_PutSets.j0 k l2 true a0 a1)))) else (impl_PutSets.j0 k l2 true a0 a1))) else (impl_PutSets.j0 k l2 true a0 a1)) = some (r1, r2) := H
    have A7 := Aside0.mk A70
    clear A70
    by_cases c8 : t103 = true
    · subst c8
      have H1 : ((impl_isChannels.f a1).bind fun t104 => (if t104 = true then ((impl_length_int64.f l2).bind fun t105 => ((impl_within.f t105 1 120).bind fun t106 => (if t106 = true then ((impl_PutSets_1.f l2 a0 a1).bind fun t107 => (impl_PutSets.j0 k l2 (!t107) a0 a1)) else (impl_PutSets.j0 k l2 true a0 a1)))) else (impl_PutSets.j0 k l2 true a0 a1))) = some (r1, r2) := by rw [if_pos rfl] at H; exact H
      clear H
      have H := H1
      clear H1
      replace H := Option.bind_eq_some_iff.mp H
      obtain ⟨t104, A90, H⟩ := H
      replace H : (if t104 = true then ((impl_length_int64.f l2).bind fun t105 => ((impl_within.f t105 1 120).bind fun t106 => (if t106 = true then ((impl_PutSets_1.f l2 a0 a1).bind fun t107 => (impl_PutSets.j0 k l2 (!t107) a0 a1)) else (impl_PutSets.j0 k l2 true a0 a1)))) else (impl_PutSets.j0 k l2 true a0 a1)) = some (r1, r2) := H
      have A9 := Aside0.mk A90
      clear A90
      by_cases c10 : t104 = true
      · subst c10
        have H1 : ((impl_length_int64.f l2).bind fun t105 => ((impl_within.f t105 1 120).bind fun t106 => (if t106 = true then ((impl_PutSets_1.f l2 a0 a1).bind fun t107 => (impl_PutSets.j0 k l2 (!t107) a0 a1)) else (impl_PutSets.j0 k l2 true a0 a1)))) = some (r1, r2) := by rw [if_pos rfl] at H; exact H
        clear H
        have H := H1
        clear H1
        replace H := Option.bind_eq_some_iff.mp H
        obtain ⟨t105, A110, H⟩ := H
        replace H : ((impl_within.f t105 1 120).bind fun t106 => (if t106 = true then ((impl_PutSets_1.f l2 a0 a1).bind fun t107 => (impl_PutSets.j0 k l2 (!t107) a0 a1)) else (impl_PutSets.j0 k l2 true a0 a1))) = some (r1, r2) := H
        have A11 := Aside0.mk A110
        clear A110
        replace H := Option.bind_eq_some_iff.mp H
        obtain ⟨t106, A120, H⟩ := H
        replace H : (if t106 = true then ((impl_PutSets_1.f l2 a0 a1).bind fun t107 => (impl_PutSets.j0 k l2 (!t107) a0 a1)) else (impl_PutSets.j0 k l2 true a0 a1)) = some (r1, r2) := H
        have A12 := Aside0.mk A120
        clear A120
        by_cases c13 : t106 = true
        · subst c13
          have H1 : ((impl_PutSets_1.f l2 a0 a1).bind fun t107 => (impl_PutSets.j0 k l2 (!t107) a0 a1)) = some (r1, r2) := by rw [if_pos rfl] at H; exact H
          clear H
          have H := H1
          clear H1
          replace H := Option.bind_eq_some_iff.mp H
          obtain ⟨t107, A140, H⟩ := H
          replace H : (impl_PutSets.j0 k l2 (!t107) a0 a1) = some (r1, r2) := H
          have A14 := Aside0.mk A140
          clear A140
          have H' := Aside0.mk H
          clear H
          have hnb15 := NB101_102.out
          have hnc15 := NB102_101.out
          have hcz16_0 : w6.cell? ⟨gb101, 0, none⟩ = some (.int .i64 a0) := (blk_cell BK101.out 0).trans rfl
          have hfz16_0 := blk_frozen BK101.out 0
          go_wp2_with (first | ((with_reducible refine gate_callee (f := 24) rfl ?_); refine goesL_ (some 20) rfl rfl Try.func24 (by kernel_rfl) rfl #[.int .i64 a0] rfl (by (try simp only [List.map_toArray, List.map_cons, List.map_nil]); first | done | rfl | (simp only [List.length_drop, List.length_take]; rfl)) ?_; (with_reducible refine (impl_isMany.calls a0 true _ A7.out).mono ?_); rintro e w' ⟨rfl, ⟨nd, rfl⟩⟩; refine ⟨_, rfl, ?_⟩; have hcz17_0 : w6.cell? ⟨gb102, 0, none⟩ = some (.int .i64 a1) := (blk_cell BK102.out 0).trans rfl; have hfz17_0 := blk_frozen BK102.out 0) | (go_at_call 25; (with_reducible refine (impl_isChannels.calls a1 true _ A9.out).mono ?_); rintro e w' ⟨rfl, ⟨nd, rfl⟩⟩) | (go_at_call 27; (with_reducible refine (impl_length_int64.calls _ _ l2 t105 _ ?side1 ?side2 A11.out).mono ?_); (case side1 => repeat (first | exact (Kd.C_below HR2.out (by repeat (first | (with_reducible first | exact HB.out | apply below_alloc | apply pw_below_drewN | apply below_drew1 | refine below_set ?_ GE101.out | refine below_set ?_ GE102.out) | exact HB.out))) | (with_reducible refine Kd.C_alloc ?_ _) | (with_reducible refine Kd.C_drewN ?_ _) | (with_reducible refine Kd.C_drew ?_))); (case side2 => exact HC2.out); rintro e w' ⟨rfl, ⟨nd, rfl⟩⟩) | (go_at_call 26; (with_reducible refine (impl_within.calls t105 1 120 true _ A12.out).mono ?_); rintro e w' ⟨rfl, ⟨nd, rfl⟩⟩) | (go_at_call 28; (with_reducible refine (impl_PutSets_1.calls _ _ l2 a0 a1 t107 _ ?side1 ?side2 A14.out gb101 gb102 ?side3 ?side4).mono ?_); (case side1 => repeat (first | exact (Kd.C_below HR2.out (by repeat (first | (with_reducible first | exact HB.out | apply below_alloc | apply pw_below_drewN | apply below_drew1 | refine below_set ?_ GE101.out | refine below_set ?_ GE102.out) | exact HB.out))) | (with_reducible refine Kd.C_alloc ?_ _) | (with_reducible refine Kd.C_drewN ?_ _) | (with_reducible refine Kd.C_drew ?_))); (case side2 => exact HC2.out); (case side3 => (with_reducible repeat (first | refine blk_drewN ?_ _ | refine blk_drew ?_ | refine blk_alloc ?_ _)); exact BK101.out); (case side4 => (with_reducible repeat (first | refine blk_drewN ?_ _ | refine blk_drew ?_ | refine blk_alloc ?_ _)); exact BK102.out); rintro e w18 ⟨rfl, hb⟩; have n0_ := Aside0.mk (blk_below (g := gb101) (o := .cells #[.int .i64 a0] 2 (0, 0)) (by (with_reducible repeat (first | refine blk_drewN ?_ _ | refine blk_drew ?_ | refine blk_alloc ?_ _)); exact BK101.out) hb); have n1_ := Aside0.mk (blk_below (g := gb102) (o := .cells #[.int .i64 a1] 2 (0, 0)) (by (with_reducible repeat (first | refine blk_drewN ?_ _ | refine blk_drew ?_ | refine blk_alloc ?_ _)); exact BK102.out) hb); have n2_ := Aside0.mk (below_step (by repeat (first | (with_reducible first | exact HB.out | apply below_alloc | apply pw_below_drewN | apply below_drew1 | refine below_set ?_ GE101.out | refine below_set ?_ GE102.out) | exact HB.out)) hb); clear BK101; clear BK102; clear HB; have BK101 := n0_; have BK102 := n1_; have HB := n2_; clear n0_ n1_ n2_; (try clear hb); (try clear hb2); (try clear hk); (try clear hi)))
          go_meet
          case rel => exact ⟨_, (!t107), (by first | rfl | (simp; done) | (simp [*]; done)), H', ⟨by first | omega | exact Nat.le_refl _⟩, ⟨by (with_reducible repeat (first | refine blk_drewN ?_ _ | refine blk_drew ?_ | refine blk_alloc ?_ _)); exact BK101.out⟩, ⟨by (with_reducible repeat (first | refine blk_drewN ?_ _ | refine blk_drew ?_ | refine blk_alloc ?_ _)); exact BK102.out⟩, ⟨by repeat (first | (with_reducible first | exact HB.out | apply below_alloc | apply pw_below_drewN | apply below_drew1 | refine below_set ?_ GE101.out | refine below_set ?_ GE102.out) | exact HB.out)⟩⟩
        · replace c13 := Bool.eq_false_iff.mpr c13
          subst c13
          have H1 : (impl_PutSets.j0 k l2 true a0 a1) = some (r1, r2) := by rw [if_neg (show ¬ (false = true) by decide)] at H; exact H
          clear H
          have H := H1
          clear H1
          have H' := Aside0.mk H
          clear H
          have hnb19 := NB101_102.out
          have hnc19 := NB102_101.out
          have hcz20_0 : w6.cell? ⟨gb101, 0, none⟩ = some (.int .i64 a0) := (blk_cell BK101.out 0).trans rfl
          have hfz20_0 := blk_frozen BK101.out 0
          go_wp2_with (first | ((with_reducible refine gate_callee (f := 24) rfl ?_); refine goesL_ (some 20) rfl rfl Try.func24 (by kernel_rfl) rfl #[.int .i64 a0] rfl (by (try simp only [List.map_toArray, List.map_cons, List.map_nil]); first | done | rfl | (simp only [List.length_drop, List.length_take]; rfl)) ?_; (with_reducible refine (impl_isMany.calls a0 true _ A7.out).mono ?_); rintro e w' ⟨rfl, ⟨nd, rfl⟩⟩; refine ⟨_, rfl, ?_⟩; have hcz21_0 : w6.cell? ⟨gb102, 0, none⟩ = some (.int .i64 a1) := (blk_cell BK102.out 0).trans rfl; have hfz21_0 := blk_frozen BK102.out 0) | (go_at_call 25; (with_reducible refine (impl_isChannels.calls a1 true _ A9.out).mono ?_); rintro e w' ⟨rfl, ⟨nd, rfl⟩⟩) | (go_at_call 27; (with_reducible refine (impl_length_int64.calls _ _ l2 t105 _ ?side1 ?side2 A11.out).mono ?_); (case side1 => repeat (first | exact (Kd.C_below HR2.out (by repeat (first | (with_reducible first | exact HB.out | apply below_alloc | apply pw_below_drewN | apply below_drew1 | refine below_set ?_ GE101.out | refine below_set ?_ GE102.out) | exact HB.out))) | (with_reducible refine Kd.C_alloc ?_ _) | (with_reducible refine Kd.C_drewN ?_ _) | (with_reducible refine Kd.C_drew ?_))); (case side2 => exact HC2.out); rintro e w' ⟨rfl, ⟨nd, rfl⟩⟩) | (go_at_call 26; (with_reducible refine (impl_within.calls t105 1 120 false _ A12.out).mono ?_); rintro e w' ⟨rfl, ⟨nd, rfl⟩⟩))
          go_meet
          case rel => exact ⟨_, (true), (by first | rfl | (simp; done) | (simp [*]; done)), H', ⟨by first | omega | exact Nat.le_refl _⟩, ⟨by (with_reducible repeat (first | refine blk_drewN ?_ _ | refine blk_drew ?_ | refine blk_alloc ?_ _)); exact BK101.out⟩, ⟨by (with_reducible repeat (first | refine blk_drewN ?_ _ | refine blk_drew ?_ | refine blk_alloc ?_ _)); exact BK102.out⟩, ⟨by repeat (first | (with_reducible first | exact HB.out | apply below_alloc | apply pw_below_drewN | apply below_drew1 | refine below_set ?_ GE101.out | refine below_set ?_ GE102.out) | exact HB.out)⟩⟩
      · replace c10 := Bool.eq_false_iff.mpr c10
        subst c10
        have H1 : (impl_PutSets.j0 k l2 true a0 a1) = some (r1, r2) := by rw [if_neg (show ¬ (false = true) by decide)] at H; exact H
        clear H
        have H := H1
        clear H1
        have H' := Aside0.mk H
        clear H
        have hnb22 := NB101_102.out
        have hnc22 := NB102_101.out
        have hcz23_0 : w6.cell? ⟨gb101, 0, none⟩ = some (.int .i64 a0) := (blk_cell BK101.out 0).trans rfl
        have hfz23_0 := blk_frozen BK101.out 0
        go_wp2_with (first | ((with_reducible refine gate_callee (f := 24) rfl ?_); refine goesL_ (some 20) rfl rfl Try.func24 (by kernel_rfl) rfl #[.int .i64 a0] rfl (by (try simp only [List.map_toArray, List.map_cons, List.map_nil]); first | done | rfl | (simp only [List.length_drop, List.length_take]; rfl)) ?_; (with_reducible refine (impl_isMany.calls a0 true _ A7.out).mono ?_); rintro e w' ⟨rfl, ⟨nd, rfl⟩⟩; refine ⟨_, rfl, ?_⟩; have hcz24_0 : w6.cell? ⟨gb102, 0, none⟩ = some (.int .i64 a1) := (blk_cell BK102.out 0).trans rfl; have hfz24_0 := blk_frozen BK102.out 0) | (go_at_call 25; (with_reducible refine (impl_isChannels.calls a1 false _ A9.out).mono ?_); rintro e w' ⟨rfl, ⟨nd, rfl⟩⟩))
        go_meet
        case rel => exact ⟨_, (true), (by first | rfl | (simp; done) | (simp [*]; done)), H', ⟨by first | omega | exact Nat.le_refl _⟩, ⟨by (with_reducible repeat (first | refine blk_drewN ?_ _ | refine blk_drew ?_ | refine blk_alloc ?_ _)); exact BK101.out⟩, ⟨by (with_reducible repeat (first | refine blk_drewN ?_ _ | refine blk_drew ?_ | refine blk_alloc ?_ _)); exact BK102.out⟩, ⟨by repeat (first | (with_reducible first | exact HB.out | apply below_alloc | apply pw_below_drewN | apply below_drew1 | refine below_set ?_ GE101.out | refine below_set ?_ GE102.out) | exact HB.out)⟩⟩
    · replace c8 := Bool.eq_false_iff.mpr c8
      subst c8
      have H1 : (impl_PutSets.j0 k l2 true a0 a1) = some (r1, r2) := by rw [if_neg (show ¬ (false = true) by decide)] at H; exact H
      clear H
      have H := H1
      clear H1
      have H' := Aside0.mk H
      clear H
      have hnb25 := NB101_102.out
      have hnc25 := NB102_101.out
      have hcz26_0 : w6.cell? ⟨gb101, 0, none⟩ = some (.int .i64 a0) := (blk_cell BK101.out 0).trans rfl
      have hfz26_0 := blk_frozen BK101.out 0
      go_wp2_with (first | ((with_reducible refine gate_callee (f := 24) rfl ?_); refine goesL_ (some 20) rfl rfl Try.func24 (by kernel_rfl) rfl #[.int .i64 a0] rfl (by (try simp only [List.map_toArray, List.map_cons, List.map_nil]); first | done | rfl | (simp only [List.length_drop, List.length_take]; rfl)) ?_; (with_reducible refine (impl_isMany.calls a0 false _ A7.out).mono ?_); rintro e w' ⟨rfl, ⟨nd, rfl⟩⟩; refine ⟨_, rfl, ?_⟩))
      go_meet
      case rel => exact ⟨_, (true), (by first | rfl | (simp; done) | (simp [*]; done)), H', ⟨by first | omega | exact Nat.le_refl _⟩, ⟨by (with_reducible repeat (first | refine blk_drewN ?_ _ | refine blk_drew ?_ | refine blk_alloc ?_ _)); exact BK101.out⟩, ⟨by (with_reducible repeat (first | refine blk_drewN ?_ _ | refine blk_drew ?_ | refine blk_alloc ?_ _)); exact BK102.out⟩, ⟨by repeat (first | (with_reducible first | exact HB.out | apply below_alloc | apply pw_below_drewN | apply below_drew1 | refine below_set ?_ GE101.out | refine below_set ?_ GE102.out) | exact HB.out)⟩⟩
  case rest =>
    clear HC4
    try clear c1
    try clear c2
    try clear p2
    try clear c7
    try clear c8
    try clear c10
    try clear c13
    try clear c15
    try clear c19
    try clear c22
    try clear c24
    try clear c25
    try clear hcz16_0
    try clear hcz17_0
    try clear hcz20_0
    try clear hcz21_0
    try clear hcz23_0
    try clear hcz24_0
    try clear hcz26_0
    try clear hfz16_0
    try clear hfz17_0
    try clear hfz20_0
    try clear hfz21_0
    try clear hfz23_0
    try clear hfz24_0
    try clear hfz26_0
    obtain ⟨kq, x38_3, rfl, HA, HJ3, BK101, BK102, HB⟩ := hcut
    cases kq with
    | zero => exact absurd HA.out (by simp [impl_PutSets.j0])
    | succ kj3 =>
      have H := HA.out
      clear HA
      simp only [impl_PutSets.j0] at H
      by_cases c27 : x38_3 = true
      · subst c27
        have H1 : (some (([] : List (List Int)), 2)) = some (r1, r2) := by rw [if_pos rfl] at H; exact H
        clear H
        have H := H1
        clear H1
        simp only [Option.some.injEq, Prod.mk.injEq] at H
        obtain ⟨rfl, rfl⟩ := H
        go_wp2
        go_ret2
        exact ⟨_, by first | rfl | (simp [errW_none, errW_some] <;> rfl) | (simp [*, errW_none, errW_some] <;> rfl), by first | exact Kd.S_nil _ _ _ _ _ | exact Kd.N_nil _ _ _ _ _ | exact Kd.V_nil _ _ _ _ _ | exact Kd.Q_nil _ _ _ _ _ | exact Kd.R_nil _ _ _ _ _, by repeat (first | (with_reducible first | exact HB.out | apply below_alloc | apply pw_below_drewN | apply below_drew1 | refine below_set ?_ GE101.out | refine below_set ?_ GE102.out) | exact HB.out)⟩
      · replace c27 := Bool.eq_false_iff.mpr c27
        subst c27
        have H1 : (if 0 ≤ a1 then (if (a1 : Int).toNat ≤ 11728124029610 then ((slices_Repeat_Sint64_int64.f (([(-1)] : List Int)) a0).bind fun t114 => (impl_PutSets.l0 kj3 (List.replicate (a1 : Int).toNat []) t114 l2 (l2.length : Int) 0 a0 a1)) else (none)) else (none)) = some (r1, r2) := by rw [if_neg (show ¬ (false = true) by decide)] at H; exact H
        clear H
        have H := H1
        clear H1
        by_cases c28 : 0 ≤ a1
        · rw [if_pos c28] at H
          have c28b0 := eq_true c28
          have c28b1 : decide (0 ≤ a1) = true := decide_eq_true c28
          clear c28
          by_cases c29 : (a1 : Int).toNat ≤ 11728124029610
          · rw [if_pos c29] at H
            have c29b0 := eq_true c29
            have c29b1 : decide ((a1 : Int).toNat ≤ 11728124029610) = true := decide_eq_true c29
            clear c29
            obtain ⟨y108, hy108⟩ : ∃ y_ : List (List Int), y_ = (List.replicate (a1 : Int).toNat []) := ⟨_, rfl⟩
            replace H : ((slices_Repeat_Sint64_int64.f (([(-1)] : List Int)) a0).bind fun t114 => (impl_PutSets.l0 kj3 y108 t114 l2 (l2.length : Int) 0 a0 a1)) = some (r1, r2) := by first | (rw [hy108]; with_reducible exact H) | (have H2_ := (Option.bind_some _ _).symm.trans H; rw [hy108]; with_reducible exact H2_) | (have H2_ := (Option.bind_some _ _).symm.trans H; with_reducible exact H2_) | with_reducible exact H | (rw [hy108]; exact H) | exact H
            have Ny108 := Aside0.mk hy108
            clear hy108
            obtain ⟨y111, hy111⟩ : ∃ y_ : List Int, y_ = (([(-1)] : List Int)) := ⟨_, rfl⟩
            replace H : ((slices_Repeat_Sint64_int64.f y111 a0).bind fun t114 => (impl_PutSets.l0 kj3 y108 t114 l2 (l2.length : Int) 0 a0 a1)) = some (r1, r2) := by first | (rw [hy111]; with_reducible exact H) | (have H2_ := (Option.bind_some _ _).symm.trans H; rw [hy111]; with_reducible exact H2_) | (have H2_ := (Option.bind_some _ _).symm.trans H; with_reducible exact H2_) | with_reducible exact H | (rw [hy111]; exact H) | exact H
            have Ny111 := Aside0.mk hy111
            clear hy111
            replace H := Option.bind_eq_some_iff.mp H
            obtain ⟨t114, A300, H⟩ := H
            replace H : (impl_PutSets.l0 kj3 y108 t114 l2 (l2.length : Int) 0 a0 a1) = some (r1, r2) := H
            have A30 := Aside0.mk A300
            clear A300
            have H' := Aside0.mk H
            clear H
            have hnb31 := NB102_101.out
            have hnc31 := NB101_102.out
            have hcz32_0 : wc.cell? ⟨gb102, 0, none⟩ = some (.int .i64 a1) := (blk_cell BK102.out 0).trans rfl
            have hfz32_0 := blk_frozen BK102.out 0
            go_wp2_with (first | ((with_reducible refine gate_dst (N := 40) rfl ?_); refine Kd.S_make (Kd.slice 2 (Kd.int .i64)) _ 22 rfl (N := 40) rfl 23 _ _ rfl a1 rfl rfl Try.underlying23 (.slice none 0 0) 24 info22 rfl (by decide) (by omega) [] (ok := fun _ => True) (okp := fun _ => True) ⟨_, rfl, Kd.R_nil _ _ _ _ _⟩ (fun _ hk => hk) trivial (of_decide_eq_true (by first | (with_reducible assumption) | assumption)) (Nat.le_trans (Nat.mul_le_mul_right _ (of_decide_eq_true (by first | (with_reducible assumption) | assumption) : a1.toNat ≤ 11728124029610)) (by omega)) (Below.refl _ _) (Nat.le_refl _) ?_; intro v109 w33 ho34 hb hg_ hnew_; clear hg_ hnew_; (first | rw [← Ny108.out] at ho34 | (simp only [Int.reduceToNat] at ho34; rw [← Ny108.out] at ho34)); have n0_ := Aside0.mk (Kd.S_lower (Kd.S_newB (Kd.S_newB ho34 (g := gb101) (o := .cells #[.int .i64 a0] 2 (0, 0)) (by (with_reducible repeat (first | refine blk_drewN ?_ _ | refine blk_drew ?_ | refine blk_alloc ?_ _)); exact BK101.out)) (g := gb102) (o := .cells #[.int .i64 a1] 2 (0, 0)) (by (with_reducible repeat (first | refine blk_drewN ?_ _ | refine blk_drew ?_ | refine blk_alloc ?_ _)); exact BK102.out)) (below_size (by repeat (first | (with_reducible first | exact HB.out | apply below_alloc | apply pw_below_drewN | apply below_drew1 | refine below_set ?_ GE101.out | refine below_set ?_ GE102.out) | exact HB.out)))); have n1_ := Aside0.mk (blk_below (g := gb101) (o := .cells #[.int .i64 a0] 2 (0, 0)) (by (with_reducible repeat (first | refine blk_drewN ?_ _ | refine blk_drew ?_ | refine blk_alloc ?_ _)); exact BK101.out) hb); have n2_ := Aside0.mk (blk_below (g := gb102) (o := .cells #[.int .i64 a1] 2 (0, 0)) (by (with_reducible repeat (first | refine blk_drewN ?_ _ | refine blk_drew ?_ | refine blk_alloc ?_ _)); exact BK102.out) hb); have n3_ := Aside0.mk (below_step (by repeat (first | (with_reducible first | exact HB.out | apply below_alloc | apply pw_below_drewN | apply below_drew1 | refine below_set ?_ GE101.out | refine below_set ?_ GE102.out) | exact HB.out)) hb); clear BK101; clear BK102; clear HB; have HO110 := n0_; have BK101 := n1_; have BK102 := n2_; have HB := n3_; clear n0_ n1_ n2_ n3_; clear hb ho34) | ((with_reducible refine gate_dst (N := 41) rfl ?_); refine Kd.R_lit (Kd.int .i64) _ 2 ?hg (N := 41) ?hd (xs := ([(-1)] : List Int)) (inner := [.int .i64 (-1)]) (ok := fun _ => True) (okp := fun _ => True) ?hr ?hp (fun _ hk => hk) trivial (Below.refl _ _) (Nat.le_refl _) (by simp) ?_; (case hd => rfl); (case hg => rfl); (case hr => first | (go_simp; done) | (go_simp; rfl)); (case hp => exact (Reps.one (show Kd.M (Kd.int .i64) _ _ _ (-1) [.int .i64 (-1)] from rfl) (Reps.none _ _))); intro v112 w35 ho36 hb hg_ hnew_; clear hg_ hnew_; (first | rw [← Ny111.out] at ho36 | (simp only [Int.reduceToNat] at ho36; rw [← Ny111.out] at ho36)); have n0_ := Aside0.mk (Kd.S_elder' (by (with_reducible repeat (first | apply Kd.S_alloc | apply Kd.S_drewN | apply Kd.S_drew)); exact HO110.out) (Kd.R_base ho36) hb); have n1_ := Aside0.mk (Kd.R_lower (Kd.R_newB (Kd.R_newB ho36 (g := gb101) (o := .cells #[.int .i64 a0] 2 (0, 0)) (by (with_reducible repeat (first | refine blk_drewN ?_ _ | refine blk_drew ?_ | refine blk_alloc ?_ _)); exact BK101.out)) (g := gb102) (o := .cells #[.int .i64 a1] 2 (0, 0)) (by (with_reducible repeat (first | refine blk_drewN ?_ _ | refine blk_drew ?_ | refine blk_alloc ?_ _)); exact BK102.out)) (below_size (by repeat (first | (with_reducible first | exact HB.out | apply below_alloc | apply pw_below_drewN | apply below_drew1 | refine below_set ?_ GE101.out | refine below_set ?_ GE102.out) | exact HB.out)))); have n2_ := Aside0.mk (blk_below (g := gb101) (o := .cells #[.int .i64 a0] 2 (0, 0)) (by (with_reducible repeat (first | refine blk_drewN ?_ _ | refine blk_drew ?_ | refine blk_alloc ?_ _)); exact BK101.out) hb); have n3_ := Aside0.mk (blk_below (g := gb102) (o := .cells #[.int .i64 a1] 2 (0, 0)) (by (with_reducible repeat (first | refine blk_drewN ?_ _ | refine blk_drew ?_ | refine blk_alloc ?_ _)); exact BK102.out) hb); have n4_ := Aside0.mk (below_step (by repeat (first | (with_reducible first | exact HB.out | apply below_alloc | apply pw_below_drewN | apply below_drew1 | refine below_set ?_ GE101.out | refine below_set ?_ GE102.out) | exact HB.out)) hb); clear HO110; clear BK101; clear BK102; clear HB; have HO110 := n0_; have HO113 := n1_; have BK101 := n2_; have BK102 := n3_; have HB := n4_; clear n0_ n1_ n2_ n3_ n4_; clear hb ho36; have hcz37_0 : w35.cell? ⟨gb101, 0, none⟩ = some (.int .i64 a0) := (blk_cell BK101.out 0).trans rfl; have hfz37_0 := blk_frozen BK101.out 0; obtain ⟨Ao38, co38, eo38⟩ := Kd.R_slice HO113.out; subst eo38) | ((with_reducible refine gate_callee (f := 31) rfl ?_); refine goesL_ (some 43) rfl rfl Try.func31 (by kernel_rfl) rfl #[.slice Ao38 y111.length co38, .int .i64 a0] rfl (by (try simp only [List.map_toArray, List.map_cons, List.map_nil]); first | done | rfl | (simp only [List.length_drop, List.length_take]; rfl)) ?_; (with_reducible refine (slices_Repeat_Sint64_int64.calls _ _ y111 a0 t114 _ ?side1 ?side2 A30.out).mono ?_); (case side1 => repeat (first | exact (Kd.R_reads' HO113.out).2.2 | (with_reducible refine Kd.C_alloc ?_ _) | (with_reducible refine Kd.C_drewN ?_ _) | (with_reducible refine Kd.C_drew ?_))); (case side2 => exact (Kd.R_reads' HO113.out).2.1); rintro e w39 ⟨v115, rfl, ho0, hb⟩; refine ⟨_, rfl, ?_⟩; have n0_ := Aside0.mk (Kd.S_elder' (by (with_reducible repeat (first | apply Kd.S_alloc | apply Kd.S_drewN | apply Kd.S_drew)); exact HO110.out) (Kd.R_base ho0) hb); have n1_ := Aside0.mk (Kd.R_elder' (by (with_reducible repeat (first | apply Kd.R_alloc | apply Kd.R_drewN | apply Kd.R_drew)); exact HO113.out) (Kd.R_base ho0) hb); have n2_ := Aside0.mk (Kd.R_lower (Kd.R_newB (Kd.R_newB (Kd.R_new' ho0 (Kd.R_lt (by (with_reducible repeat (first | apply Kd.R_alloc | apply Kd.R_drewN | apply Kd.R_drew)); exact HO113.out))) (g := gb101) (o := .cells #[.int .i64 a0] 2 (0, 0)) (by (with_reducible repeat (first | refine blk_drewN ?_ _ | refine blk_drew ?_ | refine blk_alloc ?_ _)); exact BK101.out)) (g := gb102) (o := .cells #[.int .i64 a1] 2 (0, 0)) (by (with_reducible repeat (first | refine blk_drewN ?_ _ | refine blk_drew ?_ | refine blk_alloc ?_ _)); exact BK102.out)) (below_size (by repeat (first | (with_reducible first | exact HB.out | apply below_alloc | apply pw_below_drewN | apply below_drew1 | refine below_set ?_ GE101.out | refine below_set ?_ GE102.out) | exact HB.out)))); have n3_ := Aside0.mk (blk_below (g := gb101) (o := .cells #[.int .i64 a0] 2 (0, 0)) (by (with_reducible repeat (first | refine blk_drewN ?_ _ | refine blk_drew ?_ | refine blk_alloc ?_ _)); exact BK101.out) hb); have n4_ := Aside0.mk (blk_below (g := gb102) (o := .cells #[.int .i64 a1] 2 (0, 0)) (by (with_reducible repeat (first | refine blk_drewN ?_ _ | refine blk_drew ?_ | refine blk_alloc ?_ _)); exact BK102.out) hb); have n5_ := Aside0.mk (below_step (by repeat (first | (with_reducible first | exact HB.out | apply below_alloc | apply pw_below_drewN | apply below_drew1 | refine below_set ?_ GE101.out | refine below_set ?_ GE102.out) | exact HB.out)) hb); clear HO110; clear HO113; clear BK101; clear BK102; clear HB; have HO110 := n0_; have HO113 := n1_; have HO116 := n2_; have BK101 := n3_; have BK102 := n4_; have HB := n5_; clear n0_ n1_ n2_ n3_ n4_ n5_; (try clear hb); (try clear hb2); (try clear hk); (try clear hi); (try clear ho0)))
            go_loopg [46] kj3 (fun kq v46 w' => ∃ (x8_2 : List (List Int)) (x9_2 : List Int) (x46_2 : Int), v46 = .int .i64 x46_2 ∧ Aside0 (impl_PutSets.l0 kq x8_2 x9_2 l2 (l2.length : Int) x46_2 a0 a1 = some (r1, r2)) ∧ Aside0 (kq ≤ kj3) ∧ Aside0 (Kd.S (Kd.slice 2 (Kd.int .i64)) 22 w' w.heap.size (fun k_ => some k_ ≠ (v115 : Value).ownBlock ∧ k_ ≠ gb101 ∧ k_ ≠ gb102) v109 x8_2) ∧ Aside0 (Kd.R (Kd.int .i64) 2 w' w.heap.size (fun k_ => k_ ≠ gb101 ∧ k_ ≠ gb102) v115 x9_2) ∧ Aside0 (w'.heap[gb101]? = some (.cells #[.int .i64 a0] 2 (0, 0))) ∧ Aside0 (w'.heap[gb102]? = some (.cells #[.int .i64 a1] 2 (0, 0))) ∧ Aside0 (Below w.heap.size w w'))
            case atStart => exact ⟨(y108), (t114), (0), (by first | rfl | (simp; done) | (simp [*]; done)), H', ⟨Nat.le_refl _⟩, ⟨by (with_reducible repeat (first | apply Kd.S_alloc | apply Kd.S_drewN | apply Kd.S_drew)); exact Kd.S_mono HO110.out (fun _ hk => ⟨hk.2, ⟨hk.1.1.1.2, hk.1.1.2⟩⟩)⟩, ⟨by (with_reducible repeat (first | apply Kd.R_alloc | apply Kd.R_drewN | apply Kd.R_drew)); exact Kd.R_mono HO116.out (fun _ hk => ⟨hk.1.2, hk.2⟩)⟩, ⟨by (with_reducible repeat (first | refine blk_drewN ?_ _ | refine blk_drew ?_ | refine blk_alloc ?_ _)); exact BK101.out⟩, ⟨by (with_reducible repeat (first | refine blk_drewN ?_ _ | refine blk_drew ?_ | refine blk_alloc ?_ _)); exact BK102.out⟩, ⟨by repeat (first | (with_reducible first | exact HB.out | apply below_alloc | apply pw_below_drewN | apply below_drew1 | refine below_set ?_ GE101.out | refine below_set ?_ GE102.out) | exact HB.out)⟩⟩
            case round =>
              clear H'
              try clear c1
              try clear c2
              try clear p2
              try clear c3
              try clear c7
              try clear c8
              try clear c10
              try clear c13
              try clear c15
              try clear c19
              try clear c22
              try clear c24
              try clear c25
              try clear c27
              try clear c28
              try clear c28b0
              try clear c28b1
              try clear c29
              try clear c29b0
              try clear c29b1
              try clear c31
              try clear hcz16_0
              try clear hcz17_0
              try clear hcz20_0
              try clear hcz21_0
              try clear hcz23_0
              try clear hcz24_0
              try clear hcz26_0
              try clear hcz32_0
              try clear hcz37_0
              try clear hfz16_0
              try clear hfz17_0
              try clear hfz20_0
              try clear hfz21_0
              try clear hfz23_0
              try clear hfz24_0
              try clear hfz26_0
              try clear hfz32_0
              try clear hfz37_0
              try clear p2
              obtain ⟨x8_2, x9_2, x46_2, rfl, HA, HK2, HO_8, HO_9, BK101, BK102, HB⟩ := hrel
              cases gk with
              | zero => exact absurd HA.out (by simp [impl_PutSets.l0])
              | succ k2 =>
                have H := HA.out
                clear HA
                simp only [impl_PutSets.l0] at H
                by_cases c40 : x46_2 < (l2.length : Int)
                · rw [if_pos c40] at H
                  have c40b0 : decide (x46_2 < (l2.length : Int)) = true := decide_eq_true c40
                  clear c40
                  by_cases c41 : 0 ≤ x46_2
                  · rw [if_pos c41] at H
                    have c41b0 : decide (0 ≤ x46_2) = true := decide_eq_true c41
                    clear c41
                    by_cases c42 : x46_2 < (l2.length : Int)
                    · rw [if_pos c42] at H
                      have c42b0 : decide (x46_2 < (l2.length : Int)) = true := decide_eq_true c42
                      clear c42
                      obtain ⟨y118, hy118⟩ : ∃ y_ : List Int, y_ = (([(-1)] : List Int)) := ⟨_, rfl⟩
                      replace H : ((slices_Repeat_Sint64_int64.f y118 a1).bind fun t121 => ((some (([true, false] : List Bool) : List Bool)).bind fun y124 => (impl_PutSets.l1 k2 x8_2 x9_2 (rd l2 x46_2) t121 l2 (l2.length : Int) x46_2 y124 (y124.length : Int) 0 a0 a1))) = some (r1, r2) := by first | (rw [hy118]; with_reducible exact H) | (have H2_ := (Option.bind_some _ _).symm.trans H; rw [hy118]; with_reducible exact H2_) | (have H2_ := (Option.bind_some _ _).symm.trans H; with_reducible exact H2_) | with_reducible exact H | (rw [hy118]; exact H) | exact H
                      have Ny118 := Aside0.mk hy118
                      clear hy118
                      replace H := Option.bind_eq_some_iff.mp H
                      obtain ⟨t121, A430, H⟩ := H
                      replace H : ((some (([true, false] : List Bool) : List Bool)).bind fun y124 => (impl_PutSets.l1 k2 x8_2 x9_2 (rd l2 x46_2) t121 l2 (l2.length : Int) x46_2 y124 (y124.length : Int) 0 a0 a1)) = some (r1, r2) := H
                      have A43 := Aside0.mk A430
                      clear A430
                      obtain ⟨y124, hy124⟩ : ∃ y_ : List Bool, y_ = (([true, false] : List Bool)) := ⟨_, rfl⟩
                      replace H : (impl_PutSets.l1 k2 x8_2 x9_2 (rd l2 x46_2) t121 l2 (l2.length : Int) x46_2 y124 (y124.length : Int) 0 a0 a1) = some (r1, r2) := by first | (rw [hy124]; with_reducible exact H) | (have H2_ := (Option.bind_some _ _).symm.trans H; rw [hy124]; with_reducible exact H2_) | (have H2_ := (Option.bind_some _ _).symm.trans H; with_reducible exact H2_) | with_reducible exact H | (rw [hy124]; exact H) | exact H
                      have Ny124 := Aside0.mk hy124
                      clear hy124
                      have H' := Aside0.mk H
                      clear H
                      have p117 : 0 ≤ (x46_2 : Int) := of_decide_eq_true (by first | (with_reducible assumption) | assumption)
                      have q117 : x46_2 < (l2.length : Int) := of_decide_eq_true (by first | (with_reducible assumption) | assumption)
                      obtain ⟨ad117, e117, hx117_0⟩ := Kd.at_int HR2.out x46_2 p117 q117
                      cases e117
                      replace hx117_0 := (HB.out.cell (World.block_lt_of_cell? w _ hx117_0)).trans hx117_0
                      replace p117 := eq_true p117
                      replace q117 := eq_true q117
                      go_wp2_with (first | ((with_reducible refine gate_dst (N := 50) rfl ?_); refine Kd.R_lit (Kd.int .i64) _ 2 ?hg (N := 50) ?hd (xs := ([(-1)] : List Int)) (inner := [.int .i64 (-1)]) (ok := fun _ => True) (okp := fun _ => True) ?hr ?hp (fun _ hk => hk) trivial (Below.refl _ _) (Nat.le_refl _) (by simp) ?_; (case hd => rfl); (case hg => rfl); (case hr => first | (go_simp; done) | (go_simp; rfl)); (case hp => exact (Reps.one (show Kd.M (Kd.int .i64) _ _ _ (-1) [.int .i64 (-1)] from rfl) (Reps.none _ _))); intro v119 w44 ho45 hb hg_ hnew_; clear hg_ hnew_; (first | rw [← Ny118.out] at ho45 | (simp only [Int.reduceToNat] at ho45; rw [← Ny118.out] at ho45)); have n0_ := Aside0.mk (Kd.S_elder' (by (with_reducible repeat (first | apply Kd.S_alloc | apply Kd.S_drewN | apply Kd.S_drew)); exact HO_8.out) (Kd.R_base ho45) hb); have n1_ := Aside0.mk (Kd.R_elder' (by (with_reducible repeat (first | apply Kd.R_alloc | apply Kd.R_drewN | apply Kd.R_drew)); exact HO_9.out) (Kd.R_base ho45) hb); have n2_ := Aside0.mk (Kd.R_lower (Kd.R_newB (Kd.R_newB (Kd.R_new' ho45 (Kd.R_lt (by (with_reducible repeat (first | apply Kd.R_alloc | apply Kd.R_drewN | apply Kd.R_drew)); exact HO_9.out))) (g := gb101) (o := .cells #[.int .i64 a0] 2 (0, 0)) (by (with_reducible repeat (first | refine blk_drewN ?_ _ | refine blk_drew ?_ | refine blk_alloc ?_ _)); exact BK101.out)) (g := gb102) (o := .cells #[.int .i64 a1] 2 (0, 0)) (by (with_reducible repeat (first | refine blk_drewN ?_ _ | refine blk_drew ?_ | refine blk_alloc ?_ _)); exact BK102.out)) (below_size (by repeat (first | (with_reducible first | exact HB.out | apply below_alloc | apply pw_below_drewN | apply below_drew1 | refine below_set ?_ GE101.out | refine below_set ?_ GE102.out) | exact HB.out)))); have n3_ := Aside0.mk (blk_below (g := gb101) (o := .cells #[.int .i64 a0] 2 (0, 0)) (by (with_reducible repeat (first | refine blk_drewN ?_ _ | refine blk_drew ?_ | refine blk_alloc ?_ _)); exact BK101.out) hb); have n4_ := Aside0.mk (blk_below (g := gb102) (o := .cells #[.int .i64 a1] 2 (0, 0)) (by (with_reducible repeat (first | refine blk_drewN ?_ _ | refine blk_drew ?_ | refine blk_alloc ?_ _)); exact BK102.out) hb); have n5_ := Aside0.mk (below_step (by repeat (first | (with_reducible first | exact HB.out | apply below_alloc | apply pw_below_drewN | apply below_drew1 | refine below_set ?_ GE101.out | refine below_set ?_ GE102.out) | exact HB.out)) hb); clear HO_8; clear HO_9; clear BK101; clear BK102; clear HB; have HO_8 := n0_; have HO_9 := n1_; have HO120 := n2_; have BK101 := n3_; have BK102 := n4_; have HB := n5_; clear n0_ n1_ n2_ n3_ n4_ n5_; clear hb ho45; have hnb46 := NB102_101.out; have hnc46 := NB101_102.out; have hcz47_0 : w44.cell? ⟨gb102, 0, none⟩ = some (.int .i64 a1) := (blk_cell BK102.out 0).trans rfl; have hfz47_0 := blk_frozen BK102.out 0; obtain ⟨Ao48, co48, eo48⟩ := Kd.R_slice HO120.out; subst eo48) | ((with_reducible refine gate_callee (f := 31) rfl ?_); refine goesL_ (some 52) rfl rfl Try.func31 (by kernel_rfl) rfl #[.slice Ao48 y118.length co48, .int .i64 a1] rfl (by (try simp only [List.map_toArray, List.map_cons, List.map_nil]); first | done | rfl | (simp only [List.length_drop, List.length_take]; rfl)) ?_; (with_reducible refine (slices_Repeat_Sint64_int64.calls _ _ y118 a1 t121 _ ?side1 ?side2 A43.out).mono ?_); (case side1 => repeat (first | exact (Kd.R_reads' HO120.out).2.2 | (with_reducible refine Kd.C_alloc ?_ _) | (with_reducible refine Kd.C_drewN ?_ _) | (with_reducible refine Kd.C_drew ?_))); (case side2 => exact (Kd.R_reads' HO120.out).2.1); rintro e w49 ⟨v122, rfl, ho0, hb⟩; refine ⟨_, rfl, ?_⟩; have n0_ := Aside0.mk (Kd.S_elder' (by (with_reducible repeat (first | apply Kd.S_alloc | apply Kd.S_drewN | apply Kd.S_drew)); exact HO_8.out) (Kd.R_base ho0) hb); have n1_ := Aside0.mk (Kd.R_elder' (by (with_reducible repeat (first | apply Kd.R_alloc | apply Kd.R_drewN | apply Kd.R_drew)); exact HO_9.out) (Kd.R_base ho0) hb); have n2_ := Aside0.mk (Kd.R_elder' (by (with_reducible repeat (first | apply Kd.R_alloc | apply Kd.R_drewN | apply Kd.R_drew)); exact HO120.out) (Kd.R_base ho0) hb); have n3_ := Aside0.mk (Kd.R_lower (Kd.R_newB (Kd.R_newB (Kd.R_new' (Kd.R_new' ho0 (Kd.R_lt (by (with_reducible repeat (first | apply Kd.R_alloc | apply Kd.R_drewN | apply Kd.R_drew)); exact HO_9.out))) (Kd.R_lt (by (with_reducible repeat (first | apply Kd.R_alloc | apply Kd.R_drewN | apply Kd.R_drew)); exact HO120.out))) (g := gb101) (o := .cells #[.int .i64 a0] 2 (0, 0)) (by (with_reducible repeat (first | refine blk_drewN ?_ _ | refine blk_drew ?_ | refine blk_alloc ?_ _)); exact BK101.out)) (g := gb102) (o := .cells #[.int .i64 a1] 2 (0, 0)) (by (with_reducible repeat (first | refine blk_drewN ?_ _ | refine blk_drew ?_ | refine blk_alloc ?_ _)); exact BK102.out)) (below_size (by repeat (first | (with_reducible first | exact HB.out | apply below_alloc | apply pw_below_drewN | apply below_drew1 | refine below_set ?_ GE101.out | refine below_set ?_ GE102.out) | exact HB.out)))); have n4_ := Aside0.mk (blk_below (g := gb101) (o := .cells #[.int .i64 a0] 2 (0, 0)) (by (with_reducible repeat (first | refine blk_drewN ?_ _ | refine blk_drew ?_ | refine blk_alloc ?_ _)); exact BK101.out) hb); have n5_ := Aside0.mk (blk_below (g := gb102) (o := .cells #[.int .i64 a1] 2 (0, 0)) (by (with_reducible repeat (first | refine blk_drewN ?_ _ | refine blk_drew ?_ | refine blk_alloc ?_ _)); exact BK102.out) hb); have n6_ := Aside0.mk (below_step (by repeat (first | (with_reducible first | exact HB.out | apply below_alloc | apply pw_below_drewN | apply below_drew1 | refine below_set ?_ GE101.out | refine below_set ?_ GE102.out) | exact HB.out)) hb); clear HO_8; clear HO_9; clear HO120; clear BK101; clear BK102; clear HB; have HO_8 := n0_; have HO_9 := n1_; have HO120 := n2_; have HO123 := n3_; have BK101 := n4_; have BK102 := n5_; have HB := n6_; clear n0_ n1_ n2_ n3_ n4_ n5_ n6_; (try clear hb); (try clear hb2); (try clear hk); (try clear hi); (try clear ho0)) | ((with_reducible refine gate_dst (N := 53) rfl ?_); refine Kd.R_lit Kd.bool _ 4 ?hg (N := 53) ?hd (xs := ([true, false] : List Bool)) (inner := [.bool true, .bool false]) (ok := fun _ => True) (okp := fun _ => True) ?hr ?hp (fun _ hk => hk) trivial (Below.refl _ _) (Nat.le_refl _) (by simp) ?_; (case hd => rfl); (case hg => rfl); (case hr => first | (go_simp; done) | (go_simp; rfl)); (case hp => exact (Reps.one (show Kd.M Kd.bool _ _ _ true [.bool true] from rfl) (Reps.one (show Kd.M Kd.bool _ _ _ false [.bool false] from rfl) (Reps.none _ _)))); intro v125 w50 ho51 hb hg_ hnew_; clear hg_ hnew_; (first | rw [← Ny124.out] at ho51 | (simp only [Int.reduceToNat] at ho51; rw [← Ny124.out] at ho51)); have n0_ := Aside0.mk (Kd.S_below (by (with_reducible repeat (first | apply Kd.S_alloc | apply Kd.S_drewN | apply Kd.S_drew)); exact HO_8.out) hb); have n1_ := Aside0.mk (Kd.R_below (by (with_reducible repeat (first | apply Kd.R_alloc | apply Kd.R_drewN | apply Kd.R_drew)); exact HO_9.out) hb); have n2_ := Aside0.mk (Kd.R_below (by (with_reducible repeat (first | apply Kd.R_alloc | apply Kd.R_drewN | apply Kd.R_drew)); exact HO120.out) hb); have n3_ := Aside0.mk (Kd.R_below (by (with_reducible repeat (first | apply Kd.R_alloc | apply Kd.R_drewN | apply Kd.R_drew)); exact HO123.out) hb); have n4_ := Aside0.mk (Kd.R_lower ho51 (below_size (by repeat (first | (with_reducible first | exact HB.out | apply below_alloc | apply pw_below_drewN | apply below_drew1 | refine below_set ?_ GE101.out | refine below_set ?_ GE102.out) | exact HB.out)))); have n5_ := Aside0.mk (blk_below (g := gb101) (o := .cells #[.int .i64 a0] 2 (0, 0)) (by (with_reducible repeat (first | refine blk_drewN ?_ _ | refine blk_drew ?_ | refine blk_alloc ?_ _)); exact BK101.out) hb); have n6_ := Aside0.mk (blk_below (g := gb102) (o := .cells #[.int .i64 a1] 2 (0, 0)) (by (with_reducible repeat (first | refine blk_drewN ?_ _ | refine blk_drew ?_ | refine blk_alloc ?_ _)); exact BK102.out) hb); have n7_ := Aside0.mk (below_step (by repeat (first | (with_reducible first | exact HB.out | apply below_alloc | apply pw_below_drewN | apply below_drew1 | refine below_set ?_ GE101.out | refine below_set ?_ GE102.out) | exact HB.out)) hb); clear HO_8; clear HO_9; clear HO120; clear HO123; clear BK101; clear BK102; clear HB; have HO_8 := n0_; have HO_9 := n1_; have HO120 := n2_; have HO123 := n3_; have HO126 := n4_; have BK101 := n5_; have BK102 := n6_; have HB := n7_; clear n0_ n1_ n2_ n3_ n4_ n5_ n6_ n7_; clear hb ho51; obtain ⟨Ao52, co52, eo52⟩ := Kd.R_slice HO126.out; subst eo52))
                      go_loopg [55] k2 (fun kq v55 w' => ∃ (x12_3 : List Int) (x55_3 : Int), v55 = .int .i64 x55_3 ∧ Aside0 (impl_PutSets.l1 kq x8_2 x9_2 (rd l2 x46_2) x12_3 l2 (l2.length : Int) x46_2 y124 (y124.length : Int) x55_3 a0 a1 = some (r1, r2)) ∧ Aside0 (kq ≤ k2) ∧ Aside0 (Kd.S (Kd.slice 2 (Kd.int .i64)) 22 w' w.heap.size (fun k_ => some k_ ≠ (v115 : Value).ownBlock ∧ some k_ ≠ (v122 : Value).ownBlock ∧ k_ ≠ gb101 ∧ k_ ≠ gb102) v109 x8_2) ∧ Aside0 (Kd.R (Kd.int .i64) 2 w' w.heap.size (fun k_ => some k_ ≠ (v122 : Value).ownBlock ∧ k_ ≠ gb101 ∧ k_ ≠ gb102) v115 x9_2) ∧ Aside0 (Kd.R (Kd.int .i64) 2 w' w.heap.size (fun k_ => some k_ ≠ (v115 : Value).ownBlock ∧ k_ ≠ gb101 ∧ k_ ≠ gb102) v122 x12_3) ∧ Aside0 (Kd.R Kd.bool 4 w' w.heap.size (fun _ => True) (.slice Ao52 y124.length co52) y124) ∧ Aside0 (w'.heap[gb101]? = some (.cells #[.int .i64 a0] 2 (0, 0))) ∧ Aside0 (w'.heap[gb102]? = some (.cells #[.int .i64 a1] 2 (0, 0))) ∧ Aside0 (Below w.heap.size w w'))
                      case atStart => exact ⟨(t121), (0), (by first | rfl | (simp; done) | (simp [*]; done)), H', ⟨Nat.le_refl _⟩, ⟨by (with_reducible repeat (first | apply Kd.S_alloc | apply Kd.S_drewN | apply Kd.S_drew)); exact Kd.S_mono HO_8.out (fun _ hk => ⟨hk.1.1.1, ⟨hk.2, ⟨hk.1.1.2.1, hk.1.1.2.2⟩⟩⟩)⟩, ⟨by (with_reducible repeat (first | apply Kd.R_alloc | apply Kd.R_drewN | apply Kd.R_drew)); exact Kd.R_mono HO_9.out (fun _ hk => ⟨hk.2, ⟨hk.1.1.1, hk.1.1.2⟩⟩)⟩, ⟨by (with_reducible repeat (first | apply Kd.R_alloc | apply Kd.R_drewN | apply Kd.R_drew)); exact Kd.R_mono HO123.out (fun _ hk => ⟨hk.1.1.1.2, ⟨hk.1.2, hk.2⟩⟩)⟩, ⟨by (with_reducible repeat (first | apply Kd.R_alloc | apply Kd.R_drewN | apply Kd.R_drew)); exact HO126.out⟩, ⟨by (with_reducible repeat (first | refine blk_drewN ?_ _ | refine blk_drew ?_ | refine blk_alloc ?_ _)); exact BK101.out⟩, ⟨by (with_reducible repeat (first | refine blk_drewN ?_ _ | refine blk_drew ?_ | refine blk_alloc ?_ _)); exact BK102.out⟩, ⟨by repeat (first | (with_reducible first | exact HB.out | apply below_alloc | apply pw_below_drewN | apply below_drew1 | refine below_set ?_ GE101.out | refine below_set ?_ GE102.out) | exact HB.out)⟩⟩
                      case round =>
                        clear H'
                        try clear c1
                        try clear p1
                        try clear q1
                        try clear hx1
                        try clear c2
                        try clear p2
                        try clear c3
                        try clear c4
                        try clear c7
                        try clear c8
                        try clear c10
                        try clear p11
                        try clear q11
                        try clear hx11
                        try clear c13
                        try clear c15
                        try clear c19
                        try clear c22
                        try clear c24
                        try clear c25
                        try clear c27
                        try clear c28
                        try clear c28b0
                        try clear c28b1
                        try clear c29
                        try clear c29b0
                        try clear c29b1
                        try clear c31
                        try clear c40
                        try clear c40b0
                        try clear c41
                        try clear c41b0
                        try clear c42
                        try clear c42b0
                        try clear c46
                        try clear hcz16_0
                        try clear hcz17_0
                        try clear hcz20_0
                        try clear hcz21_0
                        try clear hcz23_0
                        try clear hcz24_0
                        try clear hcz26_0
                        try clear hcz32_0
                        try clear hcz37_0
                        try clear hcz47_0
                        try clear hfz16_0
                        try clear hfz17_0
                        try clear hfz20_0
                        try clear hfz21_0
                        try clear hfz23_0
                        try clear hfz24_0
                        try clear hfz26_0
                        try clear hfz32_0
                        try clear hfz37_0
                        try clear hfz47_0
                        try clear hx117_0
                        try clear p117
                        try clear p2
                        try clear q117
                        obtain ⟨x12_3, x55_3, rfl, HA, HK3, HO_8, HO_9, HO_12, HO_53, BK101, BK102, HB⟩ := hrel
                        cases gk with
                        | zero => exact absurd HA.out (by simp [impl_PutSets.l1])
                        | succ k3 =>
                          have H := HA.out
                          clear HA
                          simp only [impl_PutSets.l1] at H
                          by_cases c53 : x55_3 < (y124.length : Int)
                          · rw [if_pos c53] at H
                            have c53b0 : decide (x55_3 < (y124.length : Int)) = true := decide_eq_true c53
                            clear c53
                            by_cases c54 : 0 ≤ x55_3
                            · rw [if_pos c54] at H
                              have c54b0 : decide (0 ≤ x55_3) = true := decide_eq_true c54
                              clear c54
                              by_cases c55 : x55_3 < (y124.length : Int)
                              · rw [if_pos c55] at H
                                have c55b0 : decide (x55_3 < (y124.length : Int)) = true := decide_eq_true c55
                                clear c55
                                have H' := Aside0.mk H
                                clear H
                                have p127 : 0 ≤ (x55_3 : Int) := of_decide_eq_true (by first | (with_reducible assumption) | assumption)
                                have q127 : x55_3 < (y124.length : Int) := of_decide_eq_true (by first | (with_reducible assumption) | assumption)
                                obtain ⟨ad127, e127, hx127_0⟩ := Kd.at_bool (Kd.R_reads' HO_53.out).2.2 x55_3 p127 q127
                                cases e127
                                replace p127 := eq_true p127
                                replace q127 := eq_true q127
                                have hnb56 := NB101_102.out
                                have hnc56 := NB102_101.out
                                have hcz57_0 : wr.cell? ⟨gb101, 0, none⟩ = some (.int .i64 a0) := (blk_cell BK101.out 0).trans rfl
                                have hfz57_0 := blk_frozen BK101.out 0
                                go_wp2
                                go_loopg [60] k3 (fun kq v60 w' => ∃ (x12_4 : List Int) (x60_4 : Int), v60 = .int .i64 x60_4 ∧ Aside0 (impl_PutSets.l2 kq x8_2 x9_2 (rd l2 x46_2) x12_4 (rdOf false y124 x55_3) l2 (l2.length : Int) x46_2 y124 (y124.length : Int) x55_3 a0 x60_4 a0 a1 = some (r1, r2)) ∧ Aside0 (kq ≤ k3) ∧ Aside0 (Kd.S (Kd.slice 2 (Kd.int .i64)) 22 w' w.heap.size (fun k_ => some k_ ≠ (v115 : Value).ownBlock ∧ some k_ ≠ (v122 : Value).ownBlock ∧ k_ ≠ gb101 ∧ k_ ≠ gb102) v109 x8_2) ∧ Aside0 (Kd.R (Kd.int .i64) 2 w' w.heap.size (fun k_ => some k_ ≠ (v122 : Value).ownBlock ∧ k_ ≠ gb101 ∧ k_ ≠ gb102) v115 x9_2) ∧ Aside0 (Kd.R (Kd.int .i64) 2 w' w.heap.size (fun k_ => some k_ ≠ (v115 : Value).ownBlock ∧ k_ ≠ gb101 ∧ k_ ≠ gb102) v122 x12_4) ∧ Aside0 (Kd.R Kd.bool 4 w' w.heap.size (fun _ => True) (.slice (some ad127) y124.length co52) y124) ∧ Aside0 (w'.heap[gb101]? = some (.cells #[.int .i64 a0] 2 (0, 0))) ∧ Aside0 (w'.heap[gb102]? = some (.cells #[.int .i64 a1] 2 (0, 0))) ∧ Aside0 (Below w.heap.size w w'))
                                case atStart => exact ⟨(x12_3), (0), (by first | rfl | (simp; done) | (simp [*]; done)), H', ⟨Nat.le_refl _⟩, ⟨by (with_reducible repeat (first | apply Kd.S_alloc | apply Kd.S_drewN | apply Kd.S_drew)); exact HO_8.out⟩, ⟨by (with_reducible repeat (first | apply Kd.R_alloc | apply Kd.R_drewN | apply Kd.R_drew)); exact HO_9.out⟩, ⟨by (with_reducible repeat (first | apply Kd.R_alloc | apply Kd.R_drewN | apply Kd.R_drew)); exact HO_12.out⟩, ⟨by (with_reducible repeat (first | apply Kd.R_alloc | apply Kd.R_drewN | apply Kd.R_drew)); exact HO_53.out⟩, ⟨by (with_reducible repeat (first | refine blk_drewN ?_ _ | refine blk_drew ?_ | refine blk_alloc ?_ _)); exact BK101.out⟩, ⟨by (with_reducible repeat (first | refine blk_drewN ?_ _ | refine blk_drew ?_ | refine blk_alloc ?_ _)); exact BK102.out⟩, ⟨by repeat (first | (with_reducible first | exact HB.out | apply below_alloc | apply pw_below_drewN | apply below_drew1 | refine below_set ?_ GE101.out | refine below_set ?_ GE102.out) | exact HB.out)⟩⟩
                                case round =>
                                  rename_i Jq Kq hJq hKq
                                  clear H'
                                  try clear c1
                                  try clear p1
                                  try clear q1
                                  try clear hx1
                                  try clear c2
                                  try clear p2
                                  try clear c3
                                  try clear c4
                                  try clear c5
                                  try clear c7
                                  try clear c8
                                  try clear c10
                                  try clear p11
                                  try clear q11
                                  try clear hx11
                                  try clear p12
                                  try clear q12
                                  try clear hx12
                                  try clear c13
                                  try clear c15
                                  try clear c19
                                  try clear c22
                                  try clear c24
                                  try clear c25
                                  try clear c27
                                  try clear c28
                                  try clear c28b0
                                  try clear c28b1
                                  try clear c29
                                  try clear c29b0
                                  try clear c29b1
                                  try clear c31
                                  try clear c40
                                  try clear c40b0
                                  try clear c41
                                  try clear c41b0
                                  try clear c42
                                  try clear c42b0
                                  try clear c46
                                  try clear c53
                                  try clear c53b0
                                  try clear c54
                                  try clear c54b0
                                  try clear c55
                                  try clear c55b0
                                  try clear c56
                                  try clear hcz16_0
                                  try clear hcz17_0
                                  try clear hcz20_0
                                  try clear hcz21_0
                                  try clear hcz23_0
                                  try clear hcz24_0
                                  try clear hcz26_0
                                  try clear hcz32_0
                                  try clear hcz37_0
                                  try clear hcz47_0
                                  try clear hcz57_0
                                  try clear hfz16_0
                                  try clear hfz17_0
                                  try clear hfz20_0
                                  try clear hfz21_0
                                  try clear hfz23_0
                                  try clear hfz24_0
                                  try clear hfz26_0
                                  try clear hfz32_0
                                  try clear hfz37_0
                                  try clear hfz47_0
                                  try clear hfz57_0
                                  try clear hx117_0
                                  try clear hx127_0
                                  try clear p1
                                  try clear p11
                                  try clear p117
                                  try clear p127
                                  try clear p2
                                  try clear q1
                                  try clear q11
                                  try clear q117
                                  try clear q127
                                  obtain ⟨x12_4, x60_4, rfl, HA, HK4, HO_8, HO_9, HO_12, HO_53, BK101, BK102, HB⟩ := hrel
                                  cases gk with
                                  | zero => exact absurd HA.out (by simp [impl_PutSets.l2])
                                  | succ k4 =>
                                    have H := HA.out
                                    clear HA
                                    simp only [impl_PutSets.l2] at H
                                    by_cases c58 : x60_4 < a0
                                    · rw [if_pos c58] at H
                                      have c58b0 : decide (x60_4 < a0) = true := decide_eq_true c58
                                      clear c58
                                      have HC59 := Aside0.mk H
                                      clear H
                                      go_upto_region 15 with (fail)
                                      go_cut [72] (fun v72 wc => ∃ (kq : Nat) (x72_58 : Bool), v72 = .bool x72_58 ∧ Aside0 (impl_PutSets.j4 kq x8_2 x9_2 (rd l2 x46_2) x12_4 (rdOf false y124 x55_3) x60_4 l2 (l2.length : Int) x46_2 y124 (y124.length : Int) x55_3 a0 x60_4 x72_58 a0 a1 = some (r1, r2)) ∧ Aside0 (kq ≤ k4) ∧ Aside0 (Kd.S (Kd.slice 2 (Kd.int .i64)) 22 wc w.heap.size (fun k_ => some k_ ≠ (v115 : Value).ownBlock ∧ some k_ ≠ (v122 : Value).ownBlock ∧ k_ ≠ gb101 ∧ k_ ≠ gb102) v109 x8_2) ∧ Aside0 (Kd.R (Kd.int .i64) 2 wc w.heap.size (fun k_ => some k_ ≠ (v122 : Value).ownBlock ∧ k_ ≠ gb101 ∧ k_ ≠ gb102) v115 x9_2) ∧ Aside0 (Kd.R (Kd.int .i64) 2 wc w.heap.size (fun k_ => some k_ ≠ (v115 : Value).ownBlock ∧ k_ ≠ gb101 ∧ k_ ≠ gb102) v122 x12_4) ∧ Aside0 (Kd.R Kd.bool 4 wc w.heap.size (fun _ => True) (.slice (some ad127) y124.length co52) y124) ∧ Aside0 (wc.heap[gb101]? = some (.cells #[.int .i64 a0] 2 (0, 0))) ∧ Aside0 (wc.heap[gb102]? = some (.cells #[.int .i64 a1] 2 (0, 0))) ∧ Aside0 (Below w.heap.size w wc))
                                      case first =>
                                        have H := HC59.out
                                        clear HC59
                                        by_cases c60 : 0 ≤ x60_4
                                        · rw [if_pos c60] at H
                                          have c60b0 := eq_true c60
                                          have c60b1 : decide (0 ≤ x60_4) = true := decide_eq_true c60
                                          clear c60
                                          obtain ⟨ji61, hji61⟩ : ∃ j_ : Int, (shr .i64 (rd l2 x46_2) x60_4) = j_ := ⟨_, rfl⟩
                                          replace H : (if (Go.bits .and .i64 (ji61) 1) = 0 then (impl_PutSets.j4 k4 x8_2 x9_2 (rd l2 x46_2) x12_4 (rdOf false y124 x55_3) x60_4 l2 (l2.length : Int) x46_2 y124 (y124.length : Int) x55_3 a0 x60_4 true a0 a1) else ((slices_Contains_Sint64_int64.f k4 x12_4 x60_4).bind fun t128 => (impl_PutSets.j4 k4 x8_2 x9_2 (rd l2 x46_2) x12_4 (rdOf false y124 x55_3) x60_4 l2 (l2.length : Int) x46_2 y124 (y124.length : Int) x55_3 a0 x60_4 t128 a0 a1))) = some (r1, r2) := by first | (rw [hji61] at H; exact H) | (simp only [hji61] at H ⊢; exact H)
                                          have hji61_ : ((rd l2 x46_2) / 2 ^ min x60_4.toNat 64) = ji61 := hji61
                                          have hji61z : x60_4 ≤ 64 → ((rd l2 x46_2) / 2 ^ x60_4.toNat) = ji61 := shr_small hji61
                                          by_cases c62 : (Go.bits .and .i64 (ji61) 1) = 0
                                          · rw [if_pos c62] at H
                                            have c62b0 : ((Go.bits .and .i64 (ji61) 1) == 0) = true := beq_iff_eq.mpr c62
                                            have c62b1 : ((Go.bits .and .i64 (ji61) 1) != 0) = false := bne_eq_false_iff_eq.mpr c62
                                            clear c62
                                            (first | rw [c62b0] | (simp only [i64_w, i32_w]; rw [c62b0]) | skip)
                                            have H' := Aside0.mk H
                                            clear H
                                            go_wp2
                                            go_meet
                                            case rel => exact ⟨_, (true), (by first | rfl | (simp; done) | (simp [*]; done)), H', ⟨by have := HJ3.out; have := HK2.out; have := HK3.out; have := HK4.out; first | omega | exact Nat.le_refl _⟩, ⟨by (with_reducible repeat (first | apply Kd.S_alloc | apply Kd.S_drewN | apply Kd.S_drew)); exact HO_8.out⟩, ⟨by (with_reducible repeat (first | apply Kd.R_alloc | apply Kd.R_drewN | apply Kd.R_drew)); exact HO_9.out⟩, ⟨by (with_reducible repeat (first | apply Kd.R_alloc | apply Kd.R_drewN | apply Kd.R_drew)); exact HO_12.out⟩, ⟨by (with_reducible repeat (first | apply Kd.R_alloc | apply Kd.R_drewN | apply Kd.R_drew)); exact HO_53.out⟩, ⟨by (with_reducible repeat (first | refine blk_drewN ?_ _ | refine blk_drew ?_ | refine blk_alloc ?_ _)); exact BK101.out⟩, ⟨by (with_reducible repeat (first | refine blk_drewN ?_ _ | refine blk_drew ?_ | refine blk_alloc ?_ _)); exact BK102.out⟩, ⟨by repeat (first | (with_reducible first | exact HB.out | apply below_alloc | apply pw_below_drewN | apply below_drew1 | refine below_set ?_ GE101.out | refine below_set ?_ GE102.out) | exact HB.out)⟩⟩
                                          · rw [if_neg c62] at H
                                            have c62b0 : ((Go.bits .and .i64 (ji61) 1) == 0) = false := beq_eq_false_iff_ne.mpr c62
                                            have c62b1 : ((Go.bits .and .i64 (ji61) 1) != 0) = true := bne_iff_ne.mpr c62
                                            (first | rw [c62b0] | (simp only [i64_w, i32_w]; rw [c62b0]) | skip)
                                            replace H := Option.bind_eq_some_iff.mp H
                                            obtain ⟨t128, A630, H⟩ := H
                                            replace H : (impl_PutSets.j4 k4 x8_2 x9_2 (rd l2 x46_2) x12_4 (rdOf false y124 x55_3) x60_4 l2 (l2.length : Int) x46_2 y124 (y124.length : Int) x55_3 a0 x60_4 t128 a0 a1) = some (r1, r2) := H
                                            have A63 := Aside0.mk A630
                                            clear A630
                                            have H' := Aside0.mk H
                                            clear H
                                            obtain ⟨Ao64, co64, eo64⟩ := Kd.R_slice HO_12.out
                                            subst eo64
                                            go_wp2_with (first | (go_at_call 32; (with_reducible refine (slices_Contains_Sint64_int64.calls k4 _ _ x12_4 x60_4 t128 _ ?side1 ?side2 A63.out).mono ?_); (case side1 => repeat (first | exact (Kd.R_reads' HO_12.out).2.2 | (with_reducible refine Kd.C_alloc ?_ _) | (with_reducible refine Kd.C_drewN ?_ _) | (with_reducible refine Kd.C_drew ?_))); (case side2 => exact (Kd.R_reads' HO_12.out).2.1); rintro e w' ⟨rfl, ⟨nd, rfl⟩⟩))
                                            go_meet
                                            case rel => exact ⟨_, (t128), (by first | rfl | (simp; done) | (simp [*]; done)), H', ⟨by have := HJ3.out; have := HK2.out; have := HK3.out; have := HK4.out; first | omega | exact Nat.le_refl _⟩, ⟨by (with_reducible repeat (first | apply Kd.S_alloc | apply Kd.S_drewN | apply Kd.S_drew)); exact HO_8.out⟩, ⟨by (with_reducible repeat (first | apply Kd.R_alloc | apply Kd.R_drewN | apply Kd.R_drew)); exact HO_9.out⟩, ⟨by (with_reducible repeat (first | apply Kd.R_alloc | apply Kd.R_drewN | apply Kd.R_drew)); exact HO_12.out⟩, ⟨by (with_reducible repeat (first | apply Kd.R_alloc | apply Kd.R_drewN | apply Kd.R_drew)); exact HO_53.out⟩, ⟨by (with_reducible repeat (first | refine blk_drewN ?_ _ | refine blk_drew ?_ | refine blk_alloc ?_ _)); exact BK101.out⟩, ⟨by (with_reducible repeat (first | refine blk_drewN ?_ _ | refine blk_drew ?_ | refine blk_alloc ?_ _)); exact BK102.out⟩, ⟨by repeat (first | (with_reducible first | exact HB.out | apply below_alloc | apply pw_below_drewN | apply below_drew1 | refine below_set ?_ GE101.out | refine below_set ?_ GE102.out) | exact HB.out)⟩⟩
                                        · rw [if_neg c60] at H
                                          exact absurd H (by simp)
                                      case rest =>
                                        clear HC59
                                        try clear c1
                                        try clear p1
                                        try clear q1
                                        try clear hx1
                                        try clear c2
                                        try clear p2
                                        try clear c3
                                        try clear c4
                                        try clear c5
                                        try clear c6
                                        try clear c7
                                        try clear c8
                                        try clear c10
                                        try clear p11
                                        try clear q11
                                        try clear hx11
                                        try clear p12
                                        try clear q12
                                        try clear hx12
                                        try clear c13
                                        try clear c15
                                        try clear c19
                                        try clear c22
                                        try clear c24
                                        try clear c25
                                        try clear c27
                                        try clear c28
                                        try clear c28b0
                                        try clear c28b1
                                        try clear c29
                                        try clear c29b0
                                        try clear c29b1
                                        try clear c31
                                        try clear c40
                                        try clear c40b0
                                        try clear c41
                                        try clear c41b0
                                        try clear c42
                                        try clear c42b0
                                        try clear c46
                                        try clear c53
                                        try clear c53b0
                                        try clear c54
                                        try clear c54b0
                                        try clear c55
                                        try clear c55b0
                                        try clear c56
                                        try clear c58
                                        try clear c58b0
                                        try clear c60
                                        try clear c60b0
                                        try clear c60b1
                                        try clear c62
                                        try clear c62b0
                                        try clear c62b1
                                        try clear hcz16_0
                                        try clear hcz17_0
                                        try clear hcz20_0
                                        try clear hcz21_0
                                        try clear hcz23_0
                                        try clear hcz24_0
                                        try clear hcz26_0
                                        try clear hcz32_0
                                        try clear hcz37_0
                                        try clear hcz47_0
                                        try clear hcz57_0
                                        try clear hfz16_0
                                        try clear hfz17_0
                                        try clear hfz20_0
                                        try clear hfz21_0
                                        try clear hfz23_0
                                        try clear hfz24_0
                                        try clear hfz26_0
                                        try clear hfz32_0
                                        try clear hfz37_0
                                        try clear hfz47_0
                                        try clear hfz57_0
                                        try clear hx117_0
                                        try clear hx127_0
                                        try clear p1
                                        try clear p11
                                        try clear p117
                                        try clear p12
                                        try clear p127
                                        try clear p2
                                        try clear q1
                                        try clear q11
                                        try clear q117
                                        try clear q12
                                        try clear q127
                                        obtain ⟨kq, x72_58, rfl, HA, HJ58, HO_8, HO_9, HO_12, HO_53, BK101, BK102, HB⟩ := hcut
                                        cases kq with
                                        | zero => exact absurd HA.out (by simp [impl_PutSets.j4])
                                        | succ kj58 =>
                                          have H := HA.out
                                          clear HA
                                          simp only [impl_PutSets.j4] at H
                                          by_cases c65 : x72_58 = true
                                          · subst c65
                                            have H1 : (impl_PutSets.l2 kj58 x8_2 x9_2 (rd l2 x46_2) x12_4 (rdOf false y124 x55_3) l2 (l2.length : Int) x46_2 y124 (y124.length : Int) x55_3 a0 (wrap64 (x60_4 + 1)) a0 a1) = some (r1, r2) := by rw [if_pos rfl] at H; exact H
                                            clear H
                                            have H := H1
                                            clear H1
                                            have H' := Aside0.mk H
                                            clear H
                                            go_wp2
                                            go_roundg kj58
                                            case measure => have := HJ3.out; have := HK2.out; have := HK3.out; have := HK4.out; have := HJ58.out; omega
                                            case rel => exact ⟨(x12_4), (wrap64 (x60_4 + 1)), (by first | rfl | (simp; done) | (simp [*]; done)), H', ⟨by have := HJ3.out; have := HK2.out; have := HK3.out; have := HK4.out; have := HJ58.out; omega⟩, ⟨by (with_reducible repeat (first | apply Kd.S_alloc | apply Kd.S_drewN | apply Kd.S_drew)); exact HO_8.out⟩, ⟨by (with_reducible repeat (first | apply Kd.R_alloc | apply Kd.R_drewN | apply Kd.R_drew)); exact HO_9.out⟩, ⟨by (with_reducible repeat (first | apply Kd.R_alloc | apply Kd.R_drewN | apply Kd.R_drew)); exact HO_12.out⟩, ⟨by (with_reducible repeat (first | apply Kd.R_alloc | apply Kd.R_drewN | apply Kd.R_drew)); exact HO_53.out⟩, ⟨by (with_reducible repeat (first | refine blk_drewN ?_ _ | refine blk_drew ?_ | refine blk_alloc ?_ _)); exact BK101.out⟩, ⟨by (with_reducible repeat (first | refine blk_drewN ?_ _ | refine blk_drew ?_ | refine blk_alloc ?_ _)); exact BK102.out⟩, ⟨by repeat (first | (with_reducible first | exact HB.out | apply below_alloc | apply pw_below_drewN | apply below_drew1 | refine below_set ?_ GE101.out | refine below_set ?_ GE102.out) | exact HB.out)⟩⟩
                                          · replace c65 := Bool.eq_false_iff.mpr c65
                                            subst c65
                                            have H1 : (if 0 ≤ x60_4 then (if x60_4 < (x9_2.length : Int) then (if (rdOf false y124 x55_3) = true then (if (rd x9_2 x60_4) = (-1) then (impl_PutSets.l2 kj58 x8_2 x9_2 (rd l2 x46_2) x12_4 (rdOf false y124 x55_3) l2 (l2.length : Int) x46_2 y124 (y124.length : Int) x55_3 a0 (wrap64 (x60_4 + 1)) a0 a1) else (if 0 ≤ (rd x9_2 x60_4) then (if (rd x9_2 x60_4) < (x12_4.length : Int) then (if (rd x12_4 (rd x9_2 x60_4)) = (-1) then (impl_PutSets.l2 kj58 x8_2 x9_2 (rd l2 x46_2) (x12_4.set ((rd x9_2 x60_4) : Int).toNat x60_4) (rdOf false y124 x55_3) l2 (l2.length : Int) x46_2 y124 (y124.length : Int) x55_3 a0 (wrap64 (x60_4 + 1)) a0 a1) else (impl_PutSets.l2 kj58 x8_2 x9_2 (rd l2 x46_2) x12_4 (rdOf false y124 x55_3) l2 (l2.length : Int) x46_2 y124 (y124.length : Int) x55_3 a0 (wrap64 (x60_4 + 1)) a0 a1)) else (none)) else (none))) else ((slices_Index_Sint64_int64.f kj58 x12_4 (-1)).bind fun t132 => (if t132 = (-1) then (impl_PutSets.l2 kj58 x8_2 x9_2 (rd l2 x46_2) x12_4 (rdOf false y124 x55_3) l2 (l2.length : Int) x46_2 y124 (y124.length : Int) x55_3 a0 (wrap64 (x60_4 + 1)) a0 a1) else (if 0 ≤ t132 then (if t132 < (x12_4.length : Int) then (if (rd x12_4 t132) = (-1) then (impl_PutSets.l2 kj58 x8_2 x9_2 (rd l2 x46_2) (x12_4.set (t132 : Int).toNat x60_4) (rdOf false y124 x55_3) l2 (l2.length : Int) x46_2 y124 (y124.length : Int) x55_3 a0 (wrap64 (x60_4 + 1)) a0 a1) else (impl_PutSets.l2 kj58 x8_2 x9_2 (rd l2 x46_2) x12_4 (rdOf false y124 x55_3) l2 (l2.length : Int) x46_2 y124 (y124.length : Int) x55_3 a0 (wrap64 (x60_4 + 1)) a0 a1)) else (none)) else (none))))) else (none)) else (none)) = some (r1, r2) := by rw [if_neg (show ¬ (false = true) by decide)] at H; exact H
                                            clear H
                                            have H := H1
                                            clear H1
                                            by_cases c66 : 0 ≤ x60_4
                                            · rw [if_pos c66] at H
                                              have c66b0 : decide (0 ≤ x60_4) = true := decide_eq_true c66
                                              clear c66
                                              by_cases c67 : x60_4 < (x9_2.length : Int)
                                              · rw [if_pos c67] at H
                                                have c67b0 : decide (x60_4 < (x9_2.length : Int)) = true := decide_eq_true c67
                                                clear c67
                                                obtain ⟨bq68, hbq68⟩ : ∃ b_ : Bool, b_ = (rdOf false y124 x55_3) := ⟨_, rfl⟩
                                                rw [← hbq68]
                                                replace H : (if (bq68) = true then (if (rd x9_2 x60_4) = (-1) then (impl_PutSets.l2 kj58 x8_2 x9_2 (rd l2 x46_2) x12_4 (bq68) l2 (l2.length : Int) x46_2 y124 (y124.length : Int) x55_3 a0 (wrap64 (x60_4 + 1)) a0 a1) else (if 0 ≤ (rd x9_2 x60_4) then (if (rd x9_2 x60_4) < (x12_4.length : Int) then (if (rd x12_4 (rd x9_2 x60_4)) = (-1) then (impl_PutSets.l2 kj58 x8_2 x9_2 (rd l2 x46_2) (x12_4.set ((rd x9_2 x60_4) : Int).toNat x60_4) (bq68) l2 (l2.length : Int) x46_2 y124 (y124.length : Int) x55_3 a0 (wrap64 (x60_4 + 1)) a0 a1) else (impl_PutSets.l2 kj58 x8_2 x9_2 (rd l2 x46_2) x12_4 (bq68) l2 (l2.length : Int) x46_2 y124 (y124.length : Int) x55_3 a0 (wrap64 (x60_4 + 1)) a0 a1)) else (none)) else (none))) else ((slices_Index_Sint64_int64.f kj58 x12_4 (-1)).bind fun t132 => (if t132 = (-1) then (impl_PutSets.l2 kj58 x8_2 x9_2 (rd l2 x46_2) x12_4 (bq68) l2 (l2.length : Int) x46_2 y124 (y124.length : Int) x55_3 a0 (wrap64 (x60_4 + 1)) a0 a1) else (if 0 ≤ t132 then (if t132 < (x12_4.length : Int) then (if (rd x12_4 t132) = (-1) then (impl_PutSets.l2 kj58 x8_2 x9_2 (rd l2 x46_2) (x12_4.set (t132 : Int).toNat x60_4) (bq68) l2 (l2.length : Int) x46_2 y124 (y124.length : Int) x55_3 a0 (wrap64 (x60_4 + 1)) a0 a1) else (impl_PutSets.l2 kj58 x8_2 x9_2 (rd l2 x46_2) x12_4 (bq68) l2 (l2.length : Int) x46_2 y124 (y124.length : Int) x55_3 a0 (wrap64 (x60_4 + 1)) a0 a1)) else (none)) else (none))))) = some (r1, r2) := by rw [← hbq68] at H; exact H
                                                have Nbq68 := Aside0.mk hbq68
                                                clear hbq68
                                                by_cases c69 : (bq68) = true
                                                · rw [if_pos c69] at H
                                                  have c69b0 : (bq68) = true := c69
                                                  clear c69
                                                  by_cases c70 : (rd x9_2 x60_4) = (-1)
                                                  · rw [if_pos c70] at H
                                                    have c70b0 : ((rd x9_2 x60_4) == (-1)) = true := beq_iff_eq.mpr c70
                                                    have c70b1 : ((rd x9_2 x60_4) != (-1)) = false := bne_eq_false_iff_eq.mpr c70
                                                    clear c70
                                                    have H' := Aside0.mk H
                                                    clear H
                                                    obtain ⟨Ao71, co71, eo71⟩ := Kd.R_slice HO_9.out
                                                    subst eo71
                                                    have p129 : 0 ≤ (x60_4 : Int) := of_decide_eq_true (by first | (with_reducible assumption) | assumption)
                                                    have q129 : x60_4 < (x9_2.length : Int) := of_decide_eq_true (by first | (with_reducible assumption) | assumption)
                                                    obtain ⟨ad129, e129, hx129_0⟩ := Kd.at_int (Kd.R_reads' HO_9.out).2.2 x60_4 p129 q129
                                                    cases e129
                                                    replace p129 := eq_true p129
                                                    replace q129 := eq_true q129
                                                    go_wp2
                                                    (try rw [Nbq68.out])
                                                    (try rw [Nbq68.out] at H')
                                                    go_roundg kj58
                                                    case measure => have := HJ3.out; have := HK2.out; have := HK3.out; have := HK4.out; have := HJ58.out; omega
                                                    case rel => exact ⟨(x12_4), (wrap64 (x60_4 + 1)), (by first | rfl | (simp; done) | (simp [*]; done)), H', ⟨by have := HJ3.out; have := HK2.out; have := HK3.out; have := HK4.out; have := HJ58.out; omega⟩, ⟨by (with_reducible repeat (first | apply Kd.S_alloc | apply Kd.S_drewN | apply Kd.S_drew)); exact HO_8.out⟩, ⟨by (with_reducible repeat (first | apply Kd.R_alloc | apply Kd.R_drewN | apply Kd.R_drew)); exact HO_9.out⟩, ⟨by (with_reducible repeat (first | apply Kd.R_alloc | apply Kd.R_drewN | apply Kd.R_drew)); exact HO_12.out⟩, ⟨by (with_reducible repeat (first | apply Kd.R_alloc | apply Kd.R_drewN | apply Kd.R_drew)); exact HO_53.out⟩, ⟨by (with_reducible repeat (first | refine blk_drewN ?_ _ | refine blk_drew ?_ | refine blk_alloc ?_ _)); exact BK101.out⟩, ⟨by (with_reducible repeat (first | refine blk_drewN ?_ _ | refine blk_drew ?_ | refine blk_alloc ?_ _)); exact BK102.out⟩, ⟨by repeat (first | (with_reducible first | exact HB.out | apply below_alloc | apply pw_below_drewN | apply below_drew1 | refine below_set ?_ GE101.out | refine below_set ?_ GE102.out) | exact HB.out)⟩⟩
                                                  · rw [if_neg c70] at H
                                                    have c70b0 : ((rd x9_2 x60_4) == (-1)) = false := beq_eq_false_iff_ne.mpr c70
                                                    have c70b1 : ((rd x9_2 x60_4) != (-1)) = true := bne_iff_ne.mpr c70
                                                    by_cases c72 : 0 ≤ (rd x9_2 x60_4)
                                                    · rw [if_pos c72] at H
                                                      have c72b0 : decide (0 ≤ (rd x9_2 x60_4)) = true := decide_eq_true c72
                                                      clear c72
                                                      by_cases c73 : (rd x9_2 x60_4) < (x12_4.length : Int)
                                                      · rw [if_pos c73] at H
                                                        have c73b0 : decide ((rd x9_2 x60_4) < (x12_4.length : Int)) = true := decide_eq_true c73
                                                        clear c73
                                                        by_cases c74 : (rd x12_4 (rd x9_2 x60_4)) = (-1)
                                                        · rw [if_pos c74] at H
                                                          have c74b0 : ((rd x12_4 (rd x9_2 x60_4)) == (-1)) = true := beq_iff_eq.mpr c74
                                                          have c74b1 : ((rd x12_4 (rd x9_2 x60_4)) != (-1)) = false := bne_eq_false_iff_eq.mpr c74
                                                          clear c74
                                                          obtain ⟨y131, hy131⟩ : ∃ y_ : List Int, y_ = (x12_4.set ((rd x9_2 x60_4) : Int).toNat x60_4) := ⟨_, rfl⟩
                                                          replace H : (impl_PutSets.l2 kj58 x8_2 x9_2 (rd l2 x46_2) y131 (bq68) l2 (l2.length : Int) x46_2 y124 (y124.length : Int) x55_3 a0 (wrap64 (x60_4 + 1)) a0 a1) = some (r1, r2) := by first | (rw [hy131]; with_reducible exact H) | (have H2_ := (Option.bind_some _ _).symm.trans H; rw [hy131]; with_reducible exact H2_) | (have H2_ := (Option.bind_some _ _).symm.trans H; with_reducible exact H2_) | with_reducible exact H | (rw [hy131]; exact H) | exact H
                                                          have Ny131 := Aside0.mk hy131
                                                          clear hy131
                                                          have H' := Aside0.mk H
                                                          clear H
                                                          obtain ⟨Ao76, co76, eo76⟩ := Kd.R_slice HO_9.out
                                                          subst eo76
                                                          have p129 : 0 ≤ (x60_4 : Int) := of_decide_eq_true (by first | (with_reducible assumption) | assumption)
                                                          have q129 : x60_4 < (x9_2.length : Int) := of_decide_eq_true (by first | (with_reducible assumption) | assumption)
                                                          obtain ⟨ad129, e129, hx129_0⟩ := Kd.at_int (Kd.R_reads' HO_9.out).2.2 x60_4 p129 q129
                                                          cases e129
                                                          replace p129 := eq_true p129
                                                          replace q129 := eq_true q129
                                                          obtain ⟨Ao77, co77, eo77⟩ := Kd.R_slice HO_12.out
                                                          subst eo77
                                                          have p130 : 0 ≤ ((rd x9_2 x60_4) : Int) := of_decide_eq_true (by first | (with_reducible assumption) | assumption)
                                                          have q130 : (rd x9_2 x60_4) < (x12_4.length : Int) := of_decide_eq_true (by first | (with_reducible assumption) | assumption)
                                                          obtain ⟨ad130, e130, hx130_0⟩ := Kd.at_int (Kd.R_reads' HO_12.out).2.2 (rd x9_2 x60_4) p130 q130
                                                          cases e130
                                                          replace p130 := eq_true p130
                                                          replace q130 := eq_true q130
                                                          have p75 : 0 ≤ ((rd x9_2 x60_4) : Int) := of_decide_eq_true (by first | (with_reducible assumption) | assumption)
                                                          have q75 : ((rd x9_2 x60_4) : Int) < ((x12_4.length : Int) : Int) := of_decide_eq_true (by first | (with_reducible assumption) | assumption)
                                                          obtain ⟨go75, co75, eo75, gb75, gl75, cl75, HG75⟩ := Kd.R_form HO_12.out (by omega)
                                                          (first | cases eo75 | (injection eo75 with ea_ en_ ec_; (first | subst ea_ | (injection ea_ with ea_; subst ea_)); subst ec_; clear en_))
                                                          have GB75 := Aside0.mk gb75
                                                          have GG75 := Aside0.mk HG75
                                                          clear gb75 gl75 HG75
                                                          (first | simp only [add_plain] at hx130_0 | skip)
                                                          obtain ⟨hx75_0, hf75_0⟩ := Kd.R_celln 0 HO_12.out ((rd x9_2 x60_4) : Int) p75 q75
                                                          replace p75 := eq_true p75
                                                          replace q75 := eq_true q75
                                                          have HP78 := Kd.R_putg HO_12.out ((rd x9_2 x60_4) : Int) x60_4
                                                          go_wp2_with (first | ((with_reducible refine gate_store (t := 2) (p := 93) rfl ?_); refine store_event (t := 2) (p := 93) (v := ?vo_w79) (w1 := (wc.setCell ⟨go75, ((rd x9_2 x60_4) : Int).toNat, none⟩ (.int .i64 x60_4))) ?hg ?ho ?hn ?hr ?_; (case ho => rfl); (case hg => rfl); (case hn => rfl); (case hr => first | (go_simp; done) | (go_simp; rfl)); intro w79 hw; have hg : wc.grownBy w79 (some go75) := (by rw [hw]; exact HP78.2); have hp_ : Kd.R (Kd.int .i64) 2 w79 w.heap.size (fun k_ => some k_ ≠ (.slice (some ad129) x9_2.length co76 : Value).ownBlock ∧ k_ ≠ gb101 ∧ k_ ≠ gb102) (.slice (some ⟨go75, 0, none⟩) x12_4.length co77) y131 := (by rw [hw, Ny131.out]; exact HP78.1); clear HP78; have n0_ := Aside0.mk (Kd.S_after (v := (.slice (some ⟨go75, 0, none⟩) x12_4.length co77)) (v1 := (.slice (some ⟨go75, 0, none⟩) x12_4.length co77)) (ok := (fun k_ => some k_ ≠ (.slice (some ad129) x9_2.length co76 : Value).ownBlock ∧ k_ ≠ gb101 ∧ k_ ≠ gb102)) (by (with_reducible repeat (first | apply Kd.S_alloc | apply Kd.S_drewN | apply Kd.S_drew)); exact Kd.S_mono HO_8.out (fun _ hk => ⟨⟨hk.1, ⟨hk.2.2.1, hk.2.2.2⟩⟩, hk.2.1⟩)) hg (.inl rfl)); have n1_ := Aside0.mk (Kd.R_after (v := (.slice (some ⟨go75, 0, none⟩) x12_4.length co77)) (v1 := (.slice (some ⟨go75, 0, none⟩) x12_4.length co77)) (ok := (fun k_ => k_ ≠ gb101 ∧ k_ ≠ gb102)) (by (with_reducible repeat (first | apply Kd.R_alloc | apply Kd.R_drewN | apply Kd.R_drew)); exact Kd.R_mono HO_9.out (fun _ hk => ⟨⟨hk.2.1, hk.2.2⟩, hk.1⟩)) hg (.inl rfl)); have n2_ := Aside0.mk (hp_); have n3_ := Aside0.mk (Kd.R_over' (v := (.slice (some ⟨go75, 0, none⟩) x12_4.length co77)) (by (with_reducible repeat (first | apply Kd.R_alloc | apply Kd.R_drewN | apply Kd.R_drew)); exact HO_53.out) (Kd.R_typed HO_12.out) (by decide) hg); have n4_ := Aside0.mk (blk_grown (g := gb101) (o := .cells #[.int .i64 a0] 2 (0, 0)) (by (with_reducible repeat (first | refine blk_drewN ?_ _ | refine blk_drew ?_ | refine blk_alloc ?_ _)); exact BK101.out) hg (Kd.R_away HO_12.out (fun _ hk => hk.2.1))); have n5_ := Aside0.mk (blk_grown (g := gb102) (o := .cells #[.int .i64 a1] 2 (0, 0)) (by (with_reducible repeat (first | refine blk_drewN ?_ _ | refine blk_drew ?_ | refine blk_alloc ?_ _)); exact BK102.out) hg (Kd.R_away HO_12.out (fun _ hk => hk.2.2))); have n6_ := Aside0.mk ((by rw [hw]; exact below_set (HB.out) GB75.out : Below w.heap.size w w79)); clear HO_8; clear HO_9; clear HO_12; clear HO_53; clear BK101; clear BK102; clear HB; have HO_8 := n0_; have HO_9 := n1_; have HO_12 := n2_; have HO_53 := n3_; have BK101 := n4_; have BK102 := n5_; have HB := n6_; clear n0_ n1_ n2_ n3_ n4_ n5_ n6_; clear hg hw hp_))
                                                          (try rw [Nbq68.out])
                                                          (try rw [Nbq68.out] at H')
                                                          go_roundg kj58
                                                          case measure => have := HJ3.out; have := HK2.out; have := HK3.out; have := HK4.out; have := HJ58.out; omega
                                                          case rel => exact ⟨(y131), (wrap64 (x60_4 + 1)), (by first | rfl | (simp; done) | (simp [*]; done)), H', ⟨by have := HJ3.out; have := HK2.out; have := HK3.out; have := HK4.out; have := HJ58.out; omega⟩, ⟨by (with_reducible repeat (first | apply Kd.S_alloc | apply Kd.S_drewN | apply Kd.S_drew)); exact Kd.S_mono HO_8.out (fun _ hk => ⟨hk.1.1, ⟨hk.2, ⟨hk.1.2.1, hk.1.2.2⟩⟩⟩)⟩, ⟨by (with_reducible repeat (first | apply Kd.R_alloc | apply Kd.R_drewN | apply Kd.R_drew)); exact Kd.R_mono HO_9.out (fun _ hk => ⟨hk.2, ⟨hk.1.1, hk.1.2⟩⟩)⟩, ⟨by (with_reducible repeat (first | apply Kd.R_alloc | apply Kd.R_drewN | apply Kd.R_drew)); exact HO_12.out⟩, ⟨by (with_reducible repeat (first | apply Kd.R_alloc | apply Kd.R_drewN | apply Kd.R_drew)); exact HO_53.out⟩, ⟨by (with_reducible repeat (first | refine blk_drewN ?_ _ | refine blk_drew ?_ | refine blk_alloc ?_ _)); exact BK101.out⟩, ⟨by (with_reducible repeat (first | refine blk_drewN ?_ _ | refine blk_drew ?_ | refine blk_alloc ?_ _)); exact BK102.out⟩, ⟨by repeat (first | (with_reducible first | exact HB.out | apply below_alloc | apply pw_below_drewN | apply below_drew1 | refine below_set ?_ GE101.out | refine below_set ?_ GE102.out) | exact HB.out)⟩⟩
                                                        · rw [if_neg c74] at H
                                                          have c74b0 : ((rd x12_4 (rd x9_2 x60_4)) == (-1)) = false := beq_eq_false_iff_ne.mpr c74
                                                          have c74b1 : ((rd x12_4 (rd x9_2 x60_4)) != (-1)) = true := bne_iff_ne.mpr c74
                                                          have H' := Aside0.mk H
                                                          clear H
                                                          obtain ⟨Ao80, co80, eo80⟩ := Kd.R_slice HO_9.out
                                                          subst eo80
                                                          have p129 : 0 ≤ (x60_4 : Int) := of_decide_eq_true (by first | (with_reducible assumption) | assumption)
                                                          have q129 : x60_4 < (x9_2.length : Int) := of_decide_eq_true (by first | (with_reducible assumption) | assumption)
                                                          obtain ⟨ad129, e129, hx129_0⟩ := Kd.at_int (Kd.R_reads' HO_9.out).2.2 x60_4 p129 q129
                                                          cases e129
                                                          replace p129 := eq_true p129
                                                          replace q129 := eq_true q129
                                                          obtain ⟨Ao81, co81, eo81⟩ := Kd.R_slice HO_12.out
                                                          subst eo81
                                                          have p130 : 0 ≤ ((rd x9_2 x60_4) : Int) := of_decide_eq_true (by first | (with_reducible assumption) | assumption)
                                                          have q130 : (rd x9_2 x60_4) < (x12_4.length : Int) := of_decide_eq_true (by first | (with_reducible assumption) | assumption)
                                                          obtain ⟨ad130, e130, hx130_0⟩ := Kd.at_int (Kd.R_reads' HO_12.out).2.2 (rd x9_2 x60_4) p130 q130
                                                          cases e130
                                                          replace p130 := eq_true p130
                                                          replace q130 := eq_true q130
                                                          go_wp2
                                                          (try rw [Nbq68.out])
                                                          (try rw [Nbq68.out] at H')
                                                          go_roundg kj58
                                                          case measure => have := HJ3.out; have := HK2.out; have := HK3.out; have := HK4.out; have := HJ58.out; omega
                                                          case rel => exact ⟨(x12_4), (wrap64 (x60_4 + 1)), (by first | rfl | (simp; done) | (simp [*]; done)), H', ⟨by have := HJ3.out; have := HK2.out; have := HK3.out; have := HK4.out; have := HJ58.out; omega⟩, ⟨by (with_reducible repeat (first | apply Kd.S_alloc | apply Kd.S_drewN | apply Kd.S_drew)); exact HO_8.out⟩, ⟨by (with_reducible repeat (first | apply Kd.R_alloc | apply Kd.R_drewN | apply Kd.R_drew)); exact HO_9.out⟩, ⟨by (with_reducible repeat (first | apply Kd.R_alloc | apply Kd.R_drewN | apply Kd.R_drew)); exact HO_12.out⟩, ⟨by (with_reducible repeat (first | apply Kd.R_alloc | apply Kd.R_drewN | apply Kd.R_drew)); exact HO_53.out⟩, ⟨by (with_reducible repeat (first | refine blk_drewN ?_ _ | refine blk_drew ?_ | refine blk_alloc ?_ _)); exact BK101.out⟩, ⟨by (with_reducible repeat (first | refine blk_drewN ?_ _ | refine blk_drew ?_ | refine blk_alloc ?_ _)); exact BK102.out⟩, ⟨by repeat (first | (with_reducible first | exact HB.out | apply below_alloc | apply pw_below_drewN | apply below_drew1 | refine below_set ?_ GE101.out | refine below_set ?_ GE102.out) | exact HB.out)⟩⟩
                                                      · rw [if_neg c73] at H
                                                        exact absurd H (by simp)
                                                    · rw [if_neg c72] at H
                                                      exact absurd H (by simp)
                                                · rw [if_neg c69] at H
                                                  have c69b0 : (bq68) = false := by simpa using c69
                                                  have hz_ := Nbq68.out.symm.trans c69b0
                                                  rw [hz_] at hJq
                                                  clear hz_
                                                  clear c69
                                                  replace H := Option.bind_eq_some_iff.mp H
                                                  obtain ⟨t132, A820, H⟩ := H
                                                  replace H : (if t132 = (-1) then (impl_PutSets.l2 kj58 x8_2 x9_2 (rd l2 x46_2) x12_4 (bq68) l2 (l2.length : Int) x46_2 y124 (y124.length : Int) x55_3 a0 (wrap64 (x60_4 + 1)) a0 a1) else (if 0 ≤ t132 then (if t132 < (x12_4.length : Int) then (if (rd x12_4 t132) = (-1) then (impl_PutSets.l2 kj58 x8_2 x9_2 (rd l2 x46_2) (x12_4.set (t132 : Int).toNat x60_4) (bq68) l2 (l2.length : Int) x46_2 y124 (y124.length : Int) x55_3 a0 (wrap64 (x60_4 + 1)) a0 a1) else (impl_PutSets.l2 kj58 x8_2 x9_2 (rd l2 x46_2) x12_4 (bq68) l2 (l2.length : Int) x46_2 y124 (y124.length : Int) x55_3 a0 (wrap64 (x60_4 + 1)) a0 a1)) else (none)) else (none))) = some (r1, r2) := H
                                                  have A82 := Aside0.mk A820
                                                  clear A820
                                                  by_cases c83 : t132 = (-1)
                                                  · rw [if_pos c83] at H
                                                    have c83b0 : (t132 == (-1)) = true := beq_iff_eq.mpr c83
                                                    have c83b1 : (t132 != (-1)) = false := bne_eq_false_iff_eq.mpr c83
                                                    clear c83
                                                    have H' := Aside0.mk H
                                                    clear H
                                                    obtain ⟨Ao84, co84, eo84⟩ := Kd.R_slice HO_9.out
                                                    subst eo84
                                                    have p129 : 0 ≤ (x60_4 : Int) := of_decide_eq_true (by first | (with_reducible assumption) | assumption)
                                                    have q129 : x60_4 < (x9_2.length : Int) := of_decide_eq_true (by first | (with_reducible assumption) | assumption)
                                                    obtain ⟨ad129, e129, hx129_0⟩ := Kd.at_int (Kd.R_reads' HO_9.out).2.2 x60_4 p129 q129
                                                    cases e129
                                                    replace p129 := eq_true p129
                                                    replace q129 := eq_true q129
                                                    obtain ⟨Ao85, co85, eo85⟩ := Kd.R_slice HO_12.out
                                                    subst eo85
                                                    go_wp2_with (first | ((with_reducible refine gate_callee (f := 33) rfl ?_); refine goesL_ (some 80) rfl rfl Try.func33 (by kernel_rfl) rfl #[.slice Ao85 x12_4.length co85, .int .i64 (-1)] rfl (by (try simp only [List.map_toArray, List.map_cons, List.map_nil]); first | done | rfl | (simp only [List.length_drop, List.length_take]; rfl)) ?_; (with_reducible refine (slices_Index_Sint64_int64.calls kj58 _ _ x12_4 (-1) t132 _ ?side1 ?side2 A82.out).mono ?_); (case side1 => repeat (first | exact (Kd.R_reads' HO_12.out).2.2 | (with_reducible refine Kd.C_alloc ?_ _) | (with_reducible refine Kd.C_drewN ?_ _) | (with_reducible refine Kd.C_drew ?_))); (case side2 => exact (Kd.R_reads' HO_12.out).2.1); rintro e w' ⟨rfl, ⟨nd, rfl⟩⟩; refine ⟨_, rfl, ?_⟩))
                                                    (try rw [c69b0] at H')
                                                    go_roundg kj58
                                                    case measure => have := HJ3.out; have := HK2.out; have := HK3.out; have := HK4.out; have := HJ58.out; omega
                                                    case rel => exact ⟨(x12_4), (wrap64 (x60_4 + 1)), (by first | rfl | (simp; done) | (simp [*]; done)), H', ⟨by have := HJ3.out; have := HK2.out; have := HK3.out; have := HK4.out; have := HJ58.out; omega⟩, ⟨by (with_reducible repeat (first | apply Kd.S_alloc | apply Kd.S_drewN | apply Kd.S_drew)); exact HO_8.out⟩, ⟨by (with_reducible repeat (first | apply Kd.R_alloc | apply Kd.R_drewN | apply Kd.R_drew)); exact HO_9.out⟩, ⟨by (with_reducible repeat (first | apply Kd.R_alloc | apply Kd.R_drewN | apply Kd.R_drew)); exact HO_12.out⟩, ⟨by (with_reducible repeat (first | apply Kd.R_alloc | apply Kd.R_drewN | apply Kd.R_drew)); exact HO_53.out⟩, ⟨by (with_reducible repeat (first | refine blk_drewN ?_ _ | refine blk_drew ?_ | refine blk_alloc ?_ _)); exact BK101.out⟩, ⟨by (with_reducible repeat (first | refine blk_drewN ?_ _ | refine blk_drew ?_ | refine blk_alloc ?_ _)); exact BK102.out⟩, ⟨by repeat (first | (with_reducible first | exact HB.out | apply below_alloc | apply pw_below_drewN | apply below_drew1 | refine below_set ?_ GE101.out | refine below_set ?_ GE102.out) | exact HB.out)⟩⟩
                                                  · rw [if_neg c83] at H
                                                    have c83b0 : (t132 == (-1)) = false := beq_eq_false_iff_ne.mpr c83
                                                    have c83b1 : (t132 != (-1)) = true := bne_iff_ne.mpr c83
                                                    by_cases c86 : 0 ≤ t132
                                                    · rw [if_pos c86] at H
                                                      have c86b0 : decide (0 ≤ t132) = true := decide_eq_true c86
                                                      clear c86
                                                      by_cases c87 : t132 < (x12_4.length : Int)
                                                      · rw [if_pos c87] at H
                                                        have c87b0 : decide (t132 < (x12_4.length : Int)) = true := decide_eq_true c87
                                                        clear c87
                                                        by_cases c88 : (rd x12_4 t132) = (-1)
                                                        · rw [if_pos c88] at H
                                                          have c88b0 : ((rd x12_4 t132) == (-1)) = true := beq_iff_eq.mpr c88
                                                          have c88b1 : ((rd x12_4 t132) != (-1)) = false := bne_eq_false_iff_eq.mpr c88
                                                          clear c88
                                                          obtain ⟨y134, hy134⟩ : ∃ y_ : List Int, y_ = (x12_4.set (t132 : Int).toNat x60_4) := ⟨_, rfl⟩
                                                          replace H : (impl_PutSets.l2 kj58 x8_2 x9_2 (rd l2 x46_2) y134 (bq68) l2 (l2.length : Int) x46_2 y124 (y124.length : Int) x55_3 a0 (wrap64 (x60_4 + 1)) a0 a1) = some (r1, r2) := by first | (rw [hy134]; with_reducible exact H) | (have H2_ := (Option.bind_some _ _).symm.trans H; rw [hy134]; with_reducible exact H2_) | (have H2_ := (Option.bind_some _ _).symm.trans H; with_reducible exact H2_) | with_reducible exact H | (rw [hy134]; exact H) | exact H
                                                          have Ny134 := Aside0.mk hy134
                                                          clear hy134
                                                          have H' := Aside0.mk H
                                                          clear H
                                                          obtain ⟨Ao90, co90, eo90⟩ := Kd.R_slice HO_9.out
                                                          subst eo90
                                                          have p129 : 0 ≤ (x60_4 : Int) := of_decide_eq_true (by first | (with_reducible assumption) | assumption)
                                                          have q129 : x60_4 < (x9_2.length : Int) := of_decide_eq_true (by first | (with_reducible assumption) | assumption)
                                                          obtain ⟨ad129, e129, hx129_0⟩ := Kd.at_int (Kd.R_reads' HO_9.out).2.2 x60_4 p129 q129
                                                          cases e129
                                                          replace p129 := eq_true p129
                                                          replace q129 := eq_true q129
                                                          obtain ⟨Ao91, co91, eo91⟩ := Kd.R_slice HO_12.out
                                                          subst eo91
                                                          go_wp2_with (first | ((with_reducible refine gate_callee (f := 33) rfl ?_); refine goesL_ (some 80) rfl rfl Try.func33 (by kernel_rfl) rfl #[.slice Ao91 x12_4.length co91, .int .i64 (-1)] rfl (by (try simp only [List.map_toArray, List.map_cons, List.map_nil]); first | done | rfl | (simp only [List.length_drop, List.length_take]; rfl)) ?_; (with_reducible refine (slices_Index_Sint64_int64.calls kj58 _ _ x12_4 (-1) t132 _ ?side1 ?side2 A82.out).mono ?_); (case side1 => repeat (first | exact (Kd.R_reads' HO_12.out).2.2 | (with_reducible refine Kd.C_alloc ?_ _) | (with_reducible refine Kd.C_drewN ?_ _) | (with_reducible refine Kd.C_drew ?_))); (case side2 => exact (Kd.R_reads' HO_12.out).2.1); rintro e w' ⟨rfl, ⟨nd, rfl⟩⟩; refine ⟨_, rfl, ?_⟩; (try (rw [drewN_self wc]; generalize hq_ : World.drewN wc _ = wc; have n0_ : Aside0 (Kd.R (Kd.int .i64) 2 wc w.heap.size (fun k_ => some k_ ≠ (.slice (some ad129) x9_2.length co90 : Value).ownBlock ∧ k_ ≠ gb101 ∧ k_ ≠ gb102) (.slice Ao91 x12_4.length co91) x12_4) := ⟨by rw [← hq_]; exact (by (with_reducible repeat (first | apply Kd.R_alloc | apply Kd.R_drewN | apply Kd.R_drew)); exact HO_12.out)⟩; have n1_ : Aside0 (Kd.R Kd.bool 4 wc w.heap.size (fun _ => True) (.slice (some ad127) y124.length co52) y124) := ⟨by rw [← hq_]; exact (by (with_reducible repeat (first | apply Kd.R_alloc | apply Kd.R_drewN | apply Kd.R_drew)); exact HO_53.out)⟩; have n2_ : Aside0 (Kd.S (Kd.slice 2 (Kd.int .i64)) 22 wc w.heap.size (fun k_ => some k_ ≠ (.slice Ao91 x12_4.length co91 : Value).ownBlock ∧ some k_ ≠ (.slice (some ad129) x9_2.length co90 : Value).ownBlock ∧ k_ ≠ gb101 ∧ k_ ≠ gb102) v109 x8_2) := ⟨by rw [← hq_]; exact (by (with_reducible repeat (first | apply Kd.S_alloc | apply Kd.S_drewN | apply Kd.S_drew)); exact Kd.S_mono HO_8.out (fun _ hk => ⟨hk.2.1, ⟨hk.1, ⟨hk.2.2.1, hk.2.2.2⟩⟩⟩))⟩; have n3_ : Aside0 (Kd.R (Kd.int .i64) 2 wc w.heap.size (fun k_ => some k_ ≠ (.slice Ao91 x12_4.length co91 : Value).ownBlock ∧ k_ ≠ gb101 ∧ k_ ≠ gb102) (.slice (some ad129) x9_2.length co90) x9_2) := ⟨by rw [← hq_]; exact (by (with_reducible repeat (first | apply Kd.R_alloc | apply Kd.R_drewN | apply Kd.R_drew)); exact HO_9.out)⟩; have n4_ : Aside0 (wc.heap[gb101]? = some (.cells #[.int .i64 a0] 2 (0, 0))) := ⟨by rw [← hq_]; exact (by (with_reducible repeat (first | refine blk_drewN ?_ _ | refine blk_drew ?_ | refine blk_alloc ?_ _)); exact BK101.out)⟩; have n5_ : Aside0 (wc.heap[gb102]? = some (.cells #[.int .i64 a1] 2 (0, 0))) := ⟨by rw [← hq_]; exact (by (with_reducible repeat (first | refine blk_drewN ?_ _ | refine blk_drew ?_ | refine blk_alloc ?_ _)); exact BK102.out)⟩; have n6_ : Aside0 (Below w.heap.size w wc) := ⟨by rw [← hq_]; exact (by repeat (first | (with_reducible first | exact HB.out | apply below_alloc | apply pw_below_drewN | apply below_drew1 | refine below_set ?_ GE101.out | refine below_set ?_ GE102.out) | exact HB.out))⟩; clear HO_12 HO_53 HO_8 HO_9 BK101 BK102 HB hq_; have HO_12 := n0_; have HO_53 := n1_; have HO_8 := n2_; have HO_9 := n3_; have BK101 := n4_; have BK102 := n5_; have HB := n6_; clear n0_ n1_ n2_ n3_ n4_ n5_ n6_)); have p133 : 0 ≤ (t132 : Int) := of_decide_eq_true (by first | (with_reducible assumption) | assumption); have q133 : t132 < (x12_4.length : Int) := of_decide_eq_true (by first | (with_reducible assumption) | assumption); obtain ⟨ad133, e133, hx133_0⟩ := Kd.at_int (Kd.R_reads' HO_12.out).2.2 t132 p133 q133; cases e133; replace p133 := eq_true p133; replace q133 := eq_true q133; have p89 : 0 ≤ (t132 : Int) := of_decide_eq_true (by first | (with_reducible assumption) | assumption); have q89 : (t132 : Int) < ((x12_4.length : Int) : Int) := of_decide_eq_true (by first | (with_reducible assumption) | assumption); obtain ⟨go89, co89, eo89, gb89, gl89, cl89, HG89⟩ := Kd.R_form HO_12.out (by omega); (first | cases eo89 | (injection eo89 with ea_ en_ ec_; (first | subst ea_ | (injection ea_ with ea_; subst ea_)); subst ec_; clear en_)); have GB89 := Aside0.mk gb89; have GG89 := Aside0.mk HG89; clear gb89 gl89 HG89; (first | simp only [add_plain] at hx133_0 | skip); obtain ⟨hx89_0, hf89_0⟩ := Kd.R_celln 0 HO_12.out (t132 : Int) p89 q89; replace p89 := eq_true p89; replace q89 := eq_true q89; obtain ⟨hy92_, hz92_⟩ := Kd.R_celln 0 HO_12.out (t132 : Int) (of_decide_eq_true (by first | (with_reducible assumption) | assumption)) (of_decide_eq_true (by first | (with_reducible assumption) | assumption)); have HP92 := Kd.R_putg HO_12.out (t132 : Int) x60_4))
                                                          obtain ⟨w93, hw⟩ : ∃ w_, w_ = (wc.setCell ⟨go89, (t132 : Int).toNat, none⟩ (.int .i64 x60_4)) := ⟨_, rfl⟩
                                                          rw [← hw]
                                                          (have hg : wc.grownBy w93 (some go89) := (by rw [hw]; exact HP92.2); have hp_ : Kd.R (Kd.int .i64) 2 w93 w.heap.size (fun k_ => some k_ ≠ (.slice (some ad129) x9_2.length co90 : Value).ownBlock ∧ k_ ≠ gb101 ∧ k_ ≠ gb102) (.slice (some ⟨go89, 0, none⟩) x12_4.length co91) y134 := (by rw [hw, Ny134.out]; exact HP92.1); clear HP92; have n0_ := Aside0.mk (Kd.S_after (v := (.slice (some ⟨go89, 0, none⟩) x12_4.length co91)) (v1 := (.slice (some ⟨go89, 0, none⟩) x12_4.length co91)) (ok := (fun k_ => some k_ ≠ (.slice (some ad129) x9_2.length co90 : Value).ownBlock ∧ k_ ≠ gb101 ∧ k_ ≠ gb102)) (by (with_reducible repeat (first | apply Kd.S_alloc | apply Kd.S_drewN | apply Kd.S_drew)); exact Kd.S_mono HO_8.out (fun _ hk => ⟨⟨hk.2.1, ⟨hk.2.2.1, hk.2.2.2⟩⟩, hk.1⟩)) hg (.inl rfl)); have n1_ := Aside0.mk (Kd.R_after (v := (.slice (some ⟨go89, 0, none⟩) x12_4.length co91)) (v1 := (.slice (some ⟨go89, 0, none⟩) x12_4.length co91)) (ok := (fun k_ => k_ ≠ gb101 ∧ k_ ≠ gb102)) (by (with_reducible repeat (first | apply Kd.R_alloc | apply Kd.R_drewN | apply Kd.R_drew)); exact Kd.R_mono HO_9.out (fun _ hk => ⟨⟨hk.2.1, hk.2.2⟩, hk.1⟩)) hg (.inl rfl)); have n2_ := Aside0.mk (hp_); have n3_ := Aside0.mk (Kd.R_over' (v := (.slice (some ⟨go89, 0, none⟩) x12_4.length co91)) (by (with_reducible repeat (first | apply Kd.R_alloc | apply Kd.R_drewN | apply Kd.R_drew)); exact HO_53.out) (Kd.R_typed HO_12.out) (by decide) hg); have n4_ := Aside0.mk (blk_grown (g := gb101) (o := .cells #[.int .i64 a0] 2 (0, 0)) (by (with_reducible repeat (first | refine blk_drewN ?_ _ | refine blk_drew ?_ | refine blk_alloc ?_ _)); exact BK101.out) hg (Kd.R_away HO_12.out (fun _ hk => hk.2.1))); have n5_ := Aside0.mk (blk_grown (g := gb102) (o := .cells #[.int .i64 a1] 2 (0, 0)) (by (with_reducible repeat (first | refine blk_drewN ?_ _ | refine blk_drew ?_ | refine blk_alloc ?_ _)); exact BK102.out) hg (Kd.R_away HO_12.out (fun _ hk => hk.2.2))); have n6_ := Aside0.mk ((by rw [hw]; exact below_set (HB.out) GB89.out : Below w.heap.size w w93)); clear HO_8; clear HO_9; clear HO_12; clear HO_53; clear BK101; clear BK102; clear HB; have HO_8 := n0_; have HO_9 := n1_; have HO_12 := n2_; have HO_53 := n3_; have BK101 := n4_; have BK102 := n5_; have HB := n6_; clear n0_ n1_ n2_ n3_ n4_ n5_ n6_; clear hg hw hp_)
                                                          (try rw [c69b0] at H')
                                                          go_roundg kj58
                                                          case measure => have := HJ3.out; have := HK2.out; have := HK3.out; have := HK4.out; have := HJ58.out; omega
                                                          case rel => exact ⟨(y134), (wrap64 (x60_4 + 1)), (by first | rfl | (simp; done) | (simp [*]; done)), H', ⟨by have := HJ3.out; have := HK2.out; have := HK3.out; have := HK4.out; have := HJ58.out; omega⟩, ⟨by (with_reducible repeat (first | apply Kd.S_alloc | apply Kd.S_drewN | apply Kd.S_drew)); exact Kd.S_mono HO_8.out (fun _ hk => ⟨hk.1.1, ⟨hk.2, ⟨hk.1.2.1, hk.1.2.2⟩⟩⟩)⟩, ⟨by (with_reducible repeat (first | apply Kd.R_alloc | apply Kd.R_drewN | apply Kd.R_drew)); exact Kd.R_mono HO_9.out (fun _ hk => ⟨hk.2, ⟨hk.1.1, hk.1.2⟩⟩)⟩, ⟨by (with_reducible repeat (first | apply Kd.R_alloc | apply Kd.R_drewN | apply Kd.R_drew)); exact HO_12.out⟩, ⟨by (with_reducible repeat (first | apply Kd.R_alloc | apply Kd.R_drewN | apply Kd.R_drew)); exact HO_53.out⟩, ⟨by (with_reducible repeat (first | refine blk_drewN ?_ _ | refine blk_drew ?_ | refine blk_alloc ?_ _)); exact BK101.out⟩, ⟨by (with_reducible repeat (first | refine blk_drewN ?_ _ | refine blk_drew ?_ | refine blk_alloc ?_ _)); exact BK102.out⟩, ⟨by repeat (first | (with_reducible first | exact HB.out | apply below_alloc | apply pw_below_drewN | apply below_drew1 | refine below_set ?_ GE101.out | refine below_set ?_ GE102.out) | exact HB.out)⟩⟩
                                                        · rw [if_neg c88] at H
                                                          have c88b0 : ((rd x12_4 t132) == (-1)) = false := beq_eq_false_iff_ne.mpr c88
                                                          have c88b1 : ((rd x12_4 t132) != (-1)) = true := bne_iff_ne.mpr c88
                                                          have H' := Aside0.mk H
                                                          clear H
                                                          obtain ⟨Ao94, co94, eo94⟩ := Kd.R_slice HO_9.out
                                                          subst eo94
                                                          have p129 : 0 ≤ (x60_4 : Int) := of_decide_eq_true (by first | (with_reducible assumption) | assumption)
                                                          have q129 : x60_4 < (x9_2.length : Int) := of_decide_eq_true (by first | (with_reducible assumption) | assumption)
                                                          obtain ⟨ad129, e129, hx129_0⟩ := Kd.at_int (Kd.R_reads' HO_9.out).2.2 x60_4 p129 q129
                                                          cases e129
                                                          replace p129 := eq_true p129
                                                          replace q129 := eq_true q129
                                                          obtain ⟨Ao95, co95, eo95⟩ := Kd.R_slice HO_12.out
                                                          subst eo95
                                                          go_wp2_with (first | ((with_reducible refine gate_callee (f := 33) rfl ?_); refine goesL_ (some 80) rfl rfl Try.func33 (by kernel_rfl) rfl #[.slice Ao95 x12_4.length co95, .int .i64 (-1)] rfl (by (try simp only [List.map_toArray, List.map_cons, List.map_nil]); first | done | rfl | (simp only [List.length_drop, List.length_take]; rfl)) ?_; (with_reducible refine (slices_Index_Sint64_int64.calls kj58 _ _ x12_4 (-1) t132 _ ?side1 ?side2 A82.out).mono ?_); (case side1 => repeat (first | exact (Kd.R_reads' HO_12.out).2.2 | (with_reducible refine Kd.C_alloc ?_ _) | (with_reducible refine Kd.C_drewN ?_ _) | (with_reducible refine Kd.C_drew ?_))); (case side2 => exact (Kd.R_reads' HO_12.out).2.1); rintro e w' ⟨rfl, ⟨nd, rfl⟩⟩; refine ⟨_, rfl, ?_⟩; have p133 : 0 ≤ (t132 : Int) := of_decide_eq_true (by first | (with_reducible assumption) | assumption); have q133 : t132 < (x12_4.length : Int) := of_decide_eq_true (by first | (with_reducible assumption) | assumption); obtain ⟨ad133, e133, hx133_0⟩ := Kd.at_int (Kd.R_reads' HO_12.out).2.2 t132 p133 q133; cases e133; replace p133 := eq_true p133; replace q133 := eq_true q133))
                                                          (try rw [c69b0] at H')
                                                          go_roundg kj58
                                                          case measure => have := HJ3.out; have := HK2.out; have := HK3.out; have := HK4.out; have := HJ58.out; omega
                                                          case rel => exact ⟨(x12_4), (wrap64 (x60_4 + 1)), (by first | rfl | (simp; done) | (simp [*]; done)), H', ⟨by have := HJ3.out; have := HK2.out; have := HK3.out; have := HK4.out; have := HJ58.out; omega⟩, ⟨by (with_reducible repeat (first | apply Kd.S_alloc | apply Kd.S_drewN | apply Kd.S_drew)); exact HO_8.out⟩, ⟨by (with_reducible repeat (first | apply Kd.R_alloc | apply Kd.R_drewN | apply Kd.R_drew)); exact HO_9.out⟩, ⟨by (with_reducible repeat (first | apply Kd.R_alloc | apply Kd.R_drewN | apply Kd.R_drew)); exact HO_12.out⟩, ⟨by (with_reducible repeat (first | apply Kd.R_alloc | apply Kd.R_drewN | apply Kd.R_drew)); exact HO_53.out⟩, ⟨by (with_reducible repeat (first | refine blk_drewN ?_ _ | refine blk_drew ?_ | refine blk_alloc ?_ _)); exact BK101.out⟩, ⟨by (with_reducible repeat (first | refine blk_drewN ?_ _ | refine blk_drew ?_ | refine blk_alloc ?_ _)); exact BK102.out⟩, ⟨by repeat (first | (with_reducible first | exact HB.out | apply below_alloc | apply pw_below_drewN | apply below_drew1 | refine below_set ?_ GE101.out | refine below_set ?_ GE102.out) | exact HB.out)⟩⟩
                                                      · rw [if_neg c87] at H
                                                        exact absurd H (by simp)
                                                    · rw [if_neg c86] at H
                                                      exact absurd H (by simp)
                                              · rw [if_neg c67] at H
                                                exact absurd H (by simp)
                                            · rw [if_neg c66] at H
                                              exact absurd H (by simp)
                                    · rw [if_neg c58] at H
                                      have c58b0 : decide (x60_4 < a0) = false := decide_eq_false c58
                                      clear c58
                                      have H' := Aside0.mk H
                                      clear H
                                      go_wp2
                                      (try rw [c69b0] at H')
                                      go_roundg k4
                                      case measure => have := HJ3.out; have := HK2.out; have := HK3.out; have := HK4.out; omega
                                      case rel => exact ⟨(x12_4), (wrap64 (x55_3 + 1)), (by first | rfl | (simp; done) | (simp [*]; done)), H', ⟨by have := HJ3.out; have := HK2.out; have := HK3.out; have := HK4.out; omega⟩, ⟨by (with_reducible repeat (first | apply Kd.S_alloc | apply Kd.S_drewN | apply Kd.S_drew)); exact HO_8.out⟩, ⟨by (with_reducible repeat (first | apply Kd.R_alloc | apply Kd.R_drewN | apply Kd.R_drew)); exact HO_9.out⟩, ⟨by (with_reducible repeat (first | apply Kd.R_alloc | apply Kd.R_drewN | apply Kd.R_drew)); exact HO_12.out⟩, ⟨by (with_reducible repeat (first | apply Kd.R_alloc | apply Kd.R_drewN | apply Kd.R_drew)); exact HO_53.out⟩, ⟨by (with_reducible repeat (first | refine blk_drewN ?_ _ | refine blk_drew ?_ | refine blk_alloc ?_ _)); exact BK101.out⟩, ⟨by (with_reducible repeat (first | refine blk_drewN ?_ _ | refine blk_drew ?_ | refine blk_alloc ?_ _)); exact BK102.out⟩, ⟨by repeat (first | (with_reducible first | exact HB.out | apply below_alloc | apply pw_below_drewN | apply below_drew1 | refine below_set ?_ GE101.out | refine below_set ?_ GE102.out) | exact HB.out)⟩⟩
                              · rw [if_neg c55] at H
                                exact absurd H (by simp)
                            · rw [if_neg c54] at H
                              exact absurd H (by simp)
                          · rw [if_neg c53] at H
                            have c53b0 : decide (x55_3 < (y124.length : Int)) = false := decide_eq_false c53
                            clear c53
                            have H' := Aside0.mk H
                            clear H
                            obtain ⟨Ao96, co96, eo96⟩ := Kd.R_slice HO_12.out
                            subst eo96
                            go_wp2
                            go_loopg [98] k3 (fun kq v98 w' => ∃ (x8_4 : List (List Int)) (x9_4 : List Int) (x98_4 : Int), v98 = .int .i64 x98_4 ∧ Aside0 (impl_PutSets.l3 kq x8_4 x9_4 l2 (l2.length : Int) x46_2 x12_3 (x12_3.length : Int) x98_4 a0 a1 = some (r1, r2)) ∧ Aside0 (kq ≤ k3) ∧ Aside0 (Kd.S (Kd.slice 2 (Kd.int .i64)) 22 w' w.heap.size (fun k_ => some k_ ≠ (v115 : Value).ownBlock ∧ some k_ ≠ ((.slice Ao96 x12_3.length co96) : Value).ownBlock ∧ k_ ≠ gb101 ∧ k_ ≠ gb102) v109 x8_4) ∧ Aside0 (Kd.R (Kd.int .i64) 2 w' w.heap.size (fun k_ => some k_ ≠ ((.slice Ao96 x12_3.length co96) : Value).ownBlock ∧ k_ ≠ gb101 ∧ k_ ≠ gb102) v115 x9_4) ∧ Aside0 (Kd.R (Kd.int .i64) 2 w' w.heap.size (fun k_ => some k_ ≠ (v115 : Value).ownBlock ∧ k_ ≠ gb101 ∧ k_ ≠ gb102) (.slice Ao96 x12_3.length co96) x12_3) ∧ Aside0 (w'.heap[gb101]? = some (.cells #[.int .i64 a0] 2 (0, 0))) ∧ Aside0 (w'.heap[gb102]? = some (.cells #[.int .i64 a1] 2 (0, 0))) ∧ Aside0 (Below w.heap.size w w'))
                            case atStart => exact ⟨(x8_2), (x9_2), (0), (by first | rfl | (simp; done) | (simp [*]; done)), H', ⟨Nat.le_refl _⟩, ⟨by (with_reducible repeat (first | apply Kd.S_alloc | apply Kd.S_drewN | apply Kd.S_drew)); exact HO_8.out⟩, ⟨by (with_reducible repeat (first | apply Kd.R_alloc | apply Kd.R_drewN | apply Kd.R_drew)); exact HO_9.out⟩, ⟨by (with_reducible repeat (first | apply Kd.R_alloc | apply Kd.R_drewN | apply Kd.R_drew)); exact HO_12.out⟩, ⟨by (with_reducible repeat (first | refine blk_drewN ?_ _ | refine blk_drew ?_ | refine blk_alloc ?_ _)); exact BK101.out⟩, ⟨by (with_reducible repeat (first | refine blk_drewN ?_ _ | refine blk_drew ?_ | refine blk_alloc ?_ _)); exact BK102.out⟩, ⟨by repeat (first | (with_reducible first | exact HB.out | apply below_alloc | apply pw_below_drewN | apply below_drew1 | refine below_set ?_ GE101.out | refine below_set ?_ GE102.out) | exact HB.out)⟩⟩
                            case round =>
                              clear H'
                              try clear c1
                              try clear p1
                              try clear q1
                              try clear hx1
                              try clear c2
                              try clear p2
                              try clear c3
                              try clear c4
                              try clear c5
                              try clear c6
                              try clear p6
                              try clear q6
                              try clear c7
                              try clear p7
                              try clear q7
                              try clear hx7
                              try clear hf7
                              try clear c8
                              try clear p8
                              try clear q8
                              try clear hx8
                              try clear hf8
                              try clear c10
                              try clear p11
                              try clear q11
                              try clear hx11
                              try clear p12
                              try clear q12
                              try clear hx12
                              try clear c13
                              try clear p13
                              try clear q13
                              try clear hx13
                              try clear c15
                              try clear c19
                              try clear c22
                              try clear c24
                              try clear c25
                              try clear c27
                              try clear c28
                              try clear c28b0
                              try clear c28b1
                              try clear c29
                              try clear c29b0
                              try clear c29b1
                              try clear c31
                              try clear c33
                              try clear c40
                              try clear c40b0
                              try clear c41
                              try clear c41b0
                              try clear c42
                              try clear c42b0
                              try clear c46
                              try clear c53
                              try clear c53b0
                              try clear c54
                              try clear c54b0
                              try clear c55
                              try clear c55b0
                              try clear c56
                              try clear c58
                              try clear c58b0
                              try clear c60
                              try clear c60b0
                              try clear c60b1
                              try clear c62
                              try clear c62b0
                              try clear c62b1
                              try clear p64
                              try clear c65
                              try clear c66
                              try clear c66b0
                              try clear c67
                              try clear c67b0
                              try clear q68
                              try clear c69
                              try clear c69b0
                              try clear c70
                              try clear c70b0
                              try clear c70b1
                              try clear c72
                              try clear c72b0
                              try clear c73
                              try clear c73b0
                              try clear c74
                              try clear c74b0
                              try clear c74b1
                              try clear p75
                              try clear q75
                              try clear hx75
                              try clear hf75
                              try clear c83
                              try clear c83b0
                              try clear c83b1
                              try clear c86
                              try clear c86b0
                              try clear c87
                              try clear c87b0
                              try clear c88
                              try clear c88b0
                              try clear c88b1
                              try clear p89
                              try clear q89
                              try clear hx89
                              try clear hf89
                              try clear hcz16_0
                              try clear hcz17_0
                              try clear hcz20_0
                              try clear hcz21_0
                              try clear hcz23_0
                              try clear hcz24_0
                              try clear hcz26_0
                              try clear hcz32_0
                              try clear hcz37_0
                              try clear hcz47_0
                              try clear hcz57_0
                              try clear hfz16_0
                              try clear hfz17_0
                              try clear hfz20_0
                              try clear hfz21_0
                              try clear hfz23_0
                              try clear hfz24_0
                              try clear hfz26_0
                              try clear hfz32_0
                              try clear hfz37_0
                              try clear hfz47_0
                              try clear hfz57_0
                              try clear hx117_0
                              try clear hx127_0
                              try clear hx129_0
                              try clear hx130_0
                              try clear hx133_0
                              try clear hx75_0
                              try clear hx89_0
                              try clear p1
                              try clear p11
                              try clear p117
                              try clear p12
                              try clear p127
                              try clear p129
                              try clear p130
                              try clear p133
                              try clear p2
                              try clear p75
                              try clear p89
                              try clear q1
                              try clear q11
                              try clear q117
                              try clear q12
                              try clear q127
                              try clear q129
                              try clear q130
                              try clear q133
                              try clear q75
                              try clear q89
                              obtain ⟨x8_4, x9_4, x98_4, rfl, HA, HK4, HO_8, HO_9, HO_96, BK101, BK102, HB⟩ := hrel
                              cases gk with
                              | zero => exact absurd HA.out (by simp [impl_PutSets.l3])
                              | succ k4 =>
                                have H := HA.out
                                clear HA
                                simp only [impl_PutSets.l3] at H
                                by_cases c97 : x98_4 < (x12_3.length : Int)
                                · rw [if_pos c97] at H
                                  have c97b0 : decide (x98_4 < (x12_3.length : Int)) = true := decide_eq_true c97
                                  clear c97
                                  by_cases c98 : 0 ≤ x98_4
                                  · rw [if_pos c98] at H
                                    have c98b0 : decide (0 ≤ x98_4) = true := decide_eq_true c98
                                    clear c98
                                    by_cases c99 : x98_4 < (x12_3.length : Int)
                                    · rw [if_pos c99] at H
                                      have c99b0 : decide (x98_4 < (x12_3.length : Int)) = true := decide_eq_true c99
                                      clear c99
                                      by_cases c100 : x98_4 < (x8_4.length : Int)
                                      · rw [if_pos c100] at H
                                        have c100b0 : decide (x98_4 < (x8_4.length : Int)) = true := decide_eq_true c100
                                        clear c100
                                        by_cases c101 : (rd_L1 x8_4 x98_4).length < 17592186044416
                                        · rw [if_pos c101] at H
                                          have LMc101 := Aside0.mk c101
                                          clear c101
                                          obtain ⟨y137, hy137⟩ : ∃ y_ : List Int, y_ = ((rd_L1 x8_4 x98_4) ++ [rd x12_3 x98_4]) := ⟨_, rfl⟩
                                          replace H : ((some (x8_4.set (x98_4 : Int).toNat y137 : List (List Int))).bind fun y140 => (if (rd x12_3 x98_4) = (-1) then (impl_PutSets.l3 k4 y140 x9_4 l2 (l2.length : Int) x46_2 x12_3 (x12_3.length : Int) (wrap64 (x98_4 + 1)) a0 a1) else (if 0 ≤ (rd x12_3 x98_4) then (if (rd x12_3 x98_4) < (x9_4.length : Int) then (impl_PutSets.l3 k4 y140 (x9_4.set ((rd x12_3 x98_4) : Int).toNat x98_4) l2 (l2.length : Int) x46_2 x12_3 (x12_3.length : Int) (wrap64 (x98_4 + 1)) a0 a1) else (none)) else (none)))) = some (r1, r2) := by first | (rw [hy137]; with_reducible exact H) | (have H2_ := (Option.bind_some _ _).symm.trans H; rw [hy137]; with_reducible exact H2_) | (have H2_ := (Option.bind_some _ _).symm.trans H; with_reducible exact H2_) | with_reducible exact H | (rw [hy137]; exact H) | exact H
                                          have Ny137 := Aside0.mk hy137
                                          clear hy137
                                          obtain ⟨y140, hy140⟩ : ∃ y_ : List (List Int), y_ = (x8_4.set (x98_4 : Int).toNat y137) := ⟨_, rfl⟩
                                          replace H : (if (rd x12_3 x98_4) = (-1) then (impl_PutSets.l3 k4 y140 x9_4 l2 (l2.length : Int) x46_2 x12_3 (x12_3.length : Int) (wrap64 (x98_4 + 1)) a0 a1) else (if 0 ≤ (rd x12_3 x98_4) then (if (rd x12_3 x98_4) < (x9_4.length : Int) then (impl_PutSets.l3 k4 y140 (x9_4.set ((rd x12_3 x98_4) : Int).toNat x98_4) l2 (l2.length : Int) x46_2 x12_3 (x12_3.length : Int) (wrap64 (x98_4 + 1)) a0 a1) else (none)) else (none))) = some (r1, r2) := by first | (rw [hy140]; with_reducible exact H) | (have H2_ := (Option.bind_some _ _).symm.trans H; rw [hy140]; with_reducible exact H2_) | (have H2_ := (Option.bind_some _ _).symm.trans H; with_reducible exact H2_) | with_reducible exact H | (rw [hy140]; exact H) | exact H
                                          have Ny140 := Aside0.mk hy140
                                          clear hy140
                                          by_cases c103 : (rd x12_3 x98_4) = (-1)
                                          · rw [if_pos c103] at H
                                            have c103b0 : ((rd x12_3 x98_4) == (-1)) = true := beq_iff_eq.mpr c103
                                            have c103b1 : ((rd x12_3 x98_4) != (-1)) = false := bne_eq_false_iff_eq.mpr c103
                                            clear c103
                                            have H' := Aside0.mk H
                                            clear H
                                            have p135 : 0 ≤ (x98_4 : Int) := of_decide_eq_true (by first | (with_reducible assumption) | assumption)
                                            have q135 : x98_4 < (x12_3.length : Int) := of_decide_eq_true (by first | (with_reducible assumption) | assumption)
                                            obtain ⟨ad135, e135, hx135_0⟩ := Kd.at_int (Kd.R_reads' HO_96.out).2.2 x98_4 p135 q135
                                            cases e135
                                            replace p135 := eq_true p135
                                            replace q135 := eq_true q135
                                            obtain ⟨Ao104, co104, eo104⟩ := Kd.S_slice HO_8.out
                                            subst eo104
                                            have p136 : 0 ≤ (x98_4 : Int) := of_decide_eq_true (by first | (with_reducible assumption) | assumption)
                                            have q136 : x98_4 < (x8_4.length : Int) := of_decide_eq_true (by first | (with_reducible assumption) | assumption)
                                            obtain ⟨ad136, A136_0, c136_0, e136, hx136_0, hl136_0, hi136_0⟩ := at_L1 (Kd.S_reads' HO_8.out).2.2 x98_4 p136 q136
                                            cases e136
                                            obtain ⟨ce136, hce136, hMe136, hcc136⟩ := Kd.S_get HO_8.out [] x98_4 p136 (by first | exact q136 | exact of_decide_eq_true (by first | (with_reducible assumption) | assumption) | (have e_ := (Kd.S_reads' HO_8.out).1; omega))
                                            obtain ⟨ve136_0, rfl, ge136_0⟩ := hMe136
                                            have hv136_0 := hcc136 0 _ rfl
                                            rw [Nat.add_zero, show ((Kd.slice 2 (Kd.int .i64))).sz = 1 from rfl, Nat.mul_one] at hv136_0
                                            replace hv136_0 := Option.some.inj (hv136_0.symm.trans hx136_0)
                                            rw [hv136_0] at ge136_0
                                            have HL136_0 := Aside0.mk (show Kd.R (Kd.int .i64) 2 _ _ _ _ (rd_L1 x8_4 x98_4) from ge136_0)
                                            clear hv136_0 ge136_0
                                            have HX136_0 := Aside0.mk hx136_0
                                            clear hcc136 hce136
                                            have HR136_0 := Aside0.mk hi136_0
                                            have HC136_0 := Aside0.mk hl136_0
                                            clear hi136_0 hl136_0
                                            replace p136 := eq_true p136
                                            replace q136 := eq_true q136
                                            obtain ⟨go105, co105, eo105, gb105, gl105, cl105, HG105⟩ := Kd.S_form HO_8.out (by have h_ : (x98_4 : Int) < ((x8_4.length : Int) : Int) := of_decide_eq_true (by first | (with_reducible assumption) | assumption); have h2_ : 0 ≤ (x98_4 : Int) := (of_decide_eq_true (by first | (with_reducible assumption) | assumption)); omega)
                                            (first | cases eo105 | (injection eo105 with ea_ en_ ec_; (first | subst ea_ | (injection ea_ with ea_; subst ea_)); subst ec_; clear en_))
                                            have GB105 := Aside0.mk gb105
                                            have GG105 := Aside0.mk HG105
                                            clear gb105 gl105 HG105
                                            (first | simp only [add_plain] at hx136_0 | skip)
                                            obtain ⟨oki105, ce105, hcl105, hM105, hcc105, _, _, hH105⟩ := Kd.S_elem HO_8.out [] (x98_4 : Int) (of_decide_eq_true (by first | (with_reducible assumption) | assumption)) (by have h_ : (x98_4 : Int) < ((x8_4.length : Int) : Int) := of_decide_eq_true (by first | (with_reducible assumption) | assumption); first | exact h_ | (have e_ := (Kd.S_reads' HO_8.out).1; omega) | simpa using h_)
                                            obtain ⟨ve105_0, rfl, ge105_0⟩ := hM105
                                            have hv105 := hcc105 0 _ rfl
                                            have hX105 := HX136_0.out
                                            (try simp only [add_plain] at hX105)
                                            (try simp only [Nat.add_zero] at hv105)
                                            (try rw [show ((Kd.slice 2 (Kd.int .i64))).sz = 1 from rfl, Nat.mul_one] at hv105)
                                            replace hv105 := Option.some.inj (hv105.symm.trans hX105)
                                            subst hv105
                                            clear hX105 hcc105 hcl105
                                            have UU105 := Aside0.mk (show Kd.R (Kd.int .i64) 2 _ w.heap.size oki105 (.slice A136_0 (rd_L1 x8_4 x98_4).length c136_0) (rd_L1 x8_4 x98_4) from ge105_0)
                                            have HH105 := Aside0.mk hH105
                                            have HN105 := Aside0.mk (Kd.S_reads' HO_8.out).1
                                            clear hH105 ge105_0
                                            go_wp2_with (first | ((with_reducible refine gate_builtin (b := .append) (xs := #[.tmp 108, .tmp 110]) rfl ?_); at_builtin; refine Kd.R_append (Kd.int .i64) (w0 := w) w.heap.size rfl (.tmp 108) (.tmp 110) 22 2 (.int .i64 0) 8 rfl Try.underlying22 info2 rfl (by decide) (by omega) (.slice A136_0 (rd_L1 x8_4 x98_4).length c136_0) (rd_L1 x8_4 x98_4) (rd x12_3 x98_4) [.int .i64 (rd x12_3 x98_4)] (fun k_ => oki105 k_ ∨ ((fun k_ => some k_ ≠ (v115 : Value).ownBlock ∧ some k_ ≠ (.slice (some ad135) x12_3.length co96 : Value).ownBlock ∧ k_ ≠ gb101 ∧ k_ ≠ gb102)) k_ ∧ wr.heap.size ≤ k_) (fun _ => False) rfl rfl ?aP (fun _ hk => hk.elim) ?aF ?aO ?aB ?aS ?aL ?_; (case aP => exact rfl); (case aB => exact (by repeat (first | (with_reducible first | exact HB.out | apply below_alloc | apply pw_below_drewN | apply below_drew1 | refine below_set ?_ GE101.out | refine below_set ?_ GE102.out) | exact HB.out))); (case aF => exact (fun k_ hk => .inr ⟨⟨Kd.fresh' (Kd.R_lt (by (with_reducible repeat (first | apply Kd.R_alloc | apply Kd.R_drewN | apply Kd.R_drew)); exact HO_9.out)) k_ hk, Kd.fresh' (Kd.R_lt (by (with_reducible repeat (first | apply Kd.R_alloc | apply Kd.R_drewN | apply Kd.R_drew)); exact HO_96.out)) k_ hk, Kd.freshB (g := gb101) (o := .cells #[.int .i64 a0] 2 (0, 0)) (by (with_reducible repeat (first | refine blk_drewN ?_ _ | refine blk_drew ?_ | refine blk_alloc ?_ _)); exact BK101.out) k_ hk, Kd.freshB (g := gb102) (o := .cells #[.int .i64 a1] 2 (0, 0)) (by (with_reducible repeat (first | refine blk_drewN ?_ _ | refine blk_drew ?_ | refine blk_alloc ?_ _)); exact BK102.out) k_ hk⟩, hk⟩)); (case aO => exact (by (with_reducible repeat (first | apply Kd.R_alloc | apply Kd.R_drewN | apply Kd.R_drew)); exact Kd.R_mono UU105.out (fun _ hk => .inl hk))); (case aS => exact (below_size (by repeat (first | (with_reducible first | exact HB.out | apply below_alloc | apply pw_below_drewN | apply below_drew1 | refine below_set ?_ GE101.out | refine below_set ?_ GE102.out) | exact HB.out)))); (case aL => have := LMc101.out; omega); intro v138 w106 ho hb hg hat; rw [← Ny137.out] at ho; have n0_ := Aside0.mk (Kd.R_grown2 (by (with_reducible repeat (first | apply Kd.R_alloc | apply Kd.R_drewN | apply Kd.R_drew)); exact HO_9.out) rfl hg (fun k_ e_ => (HL136_0.out.1 k_ e_).1.1)); have n1_ := Aside0.mk (Kd.R_grown2 (by (with_reducible repeat (first | apply Kd.R_alloc | apply Kd.R_drewN | apply Kd.R_drew)); exact HO_96.out) rfl hg (fun k_ e_ => (HL136_0.out.1 k_ e_).1.2.1)); have n2_ := Aside0.mk (blk_grown (g := gb101) (o := .cells #[.int .i64 a0] 2 (0, 0)) (by (with_reducible repeat (first | refine blk_drewN ?_ _ | refine blk_drew ?_ | refine blk_alloc ?_ _)); exact BK101.out) hg (Kd.R_away HL136_0.out (fun _ hk => hk.1.2.2.1))); have n3_ := Aside0.mk (blk_grown (g := gb102) (o := .cells #[.int .i64 a1] 2 (0, 0)) (by (with_reducible repeat (first | refine blk_drewN ?_ _ | refine blk_drew ?_ | refine blk_alloc ?_ _)); exact BK102.out) hg (Kd.R_away HL136_0.out (fun _ hk => hk.1.2.2.2))); have n4_ := Aside0.mk (hb); have n5_ := Aside0.mk (Kd.H_grown (Kd.H_widen (by repeat (first | exact HH105.out | refine Kd.H_alloc ?_ _ | refine Kd.H_drewN ?_ _ | refine Kd.H_drew ?_))) hg (fun k_ e_ => .inl (UU105.out.1 k_ e_))); have n6_ := Aside0.mk (ho); clear HO_9; clear HO_96; clear BK101; clear BK102; clear HB; clear HH105; clear HO_8; clear UU105; clear HL136_0; have HO_9 := n0_; have HO_96 := n1_; have BK101 := n2_; have BK102 := n3_; have HB := n4_; have HH105 := n5_; have HO139 := n6_; clear n0_ n1_ n2_ n3_ n4_ n5_ n6_; clear ho hb hg hat; have p102 : 0 ≤ (x98_4 : Int) := of_decide_eq_true (by first | (with_reducible assumption) | assumption); have q102 : (x98_4 : Int) < ((x8_4.length : Int) : Int) := of_decide_eq_true (by first | (with_reducible assumption) | assumption); replace p102 := eq_true p102; replace q102 := eq_true q102; obtain ⟨Ao109, co109, eo109⟩ := Kd.R_slice HO139.out; subst eo109; obtain ⟨_, _, hraw107, _, _, hcc107, _⟩ := Kd.H_raw HH105.out (of_decide_eq_true (by first | (with_reducible assumption) | assumption)) (by have h_ : (x98_4 : Int) < ((x8_4.length : Int) : Int) := of_decide_eq_true (by first | (with_reducible assumption) | assumption); first | exact h_ | (have e_ := (HN105.out); omega) | simpa using h_); obtain ⟨_, hfr107⟩ := Kd.H_at HH105.out (of_decide_eq_true (by first | (with_reducible assumption) | assumption)) (by have h_ : (x98_4 : Int) < ((x8_4.length : Int) : Int) := of_decide_eq_true (by first | (with_reducible assumption) | assumption); first | exact h_ | (have e_ := (HN105.out); omega) | simpa using h_); have hx107_0 := hcc107 0 _ rfl; have hf107_0 := hfr107 0; (try simp only [Nat.add_zero] at hx107_0 hf107_0); (try rw [show ((Kd.slice 2 (Kd.int .i64))).sz = 1 from rfl, Nat.mul_one] at hx107_0); (try rw [show ((Kd.slice 2 (Kd.int .i64))).sz = 1 from rfl, Nat.mul_one] at hf107_0); have HP107 := Kd.S_seg0 HH105.out (of_decide_eq_true (by first | (with_reducible assumption) | assumption)) (by have h_ : (x98_4 : Int) < ((x8_4.length : Int) : Int) := of_decide_eq_true (by first | (with_reducible assumption) | assumption); first | exact h_ | (have e_ := (HN105.out); omega) | simpa using h_) (seg := [.slice Ao109 y137.length co109]) (j := 0) (show 1 ≤ 1 from by decide) (x' := y137) (Kd.M_row HO139.out) (fun _ hk => hk); (try simp only [show ((Kd.slice 2 (Kd.int .i64))).sz = 1 from rfl, Nat.mul_one, Nat.add_zero] at HP107); (try clear hcc107); (try clear hfr107)) | ((with_reducible refine gate_store (t := 22) (p := 112) rfl ?_); refine store_event (t := 22) (p := 112) (v := ?vo_w108) (w1 := (w106.setCell ⟨go105, (x98_4 : Int).toNat, none⟩ (.slice Ao109 y137.length co109))) ?hg ?ho ?hn ?hr ?_; (case ho => rfl); (case hg => rfl); (case hn => rfl); (case hr => first | (go_simp; done) | (go_simp; rfl)); intro w108 hw; have hg : w106.grownBy w108 (some go105) := (by rw [hw]; exact HP107.2); have hp_ : Kd.S (Kd.slice 2 (Kd.int .i64)) 22 w108 w.heap.size (fun k_ => some k_ ≠ (v115 : Value).ownBlock ∧ some k_ ≠ (.slice (some ad135) x12_3.length co96 : Value).ownBlock ∧ k_ ≠ gb101 ∧ k_ ≠ gb102) (.slice (some ⟨go105, 0, none⟩) x8_4.length co104) y140 := (by rw [hw, Ny140.out]; exact HP107.1); clear HP107; have n0_ := Aside0.mk (Kd.R_over' (v := (.slice (some ⟨go105, 0, none⟩) x8_4.length co104)) (by (with_reducible repeat (first | apply Kd.R_alloc | apply Kd.R_drewN | apply Kd.R_drew)); exact HO_9.out) (Kd.R_typed hraw107) (by decide) hg); have n1_ := Aside0.mk (Kd.R_over' (v := (.slice (some ⟨go105, 0, none⟩) x8_4.length co104)) (by (with_reducible repeat (first | apply Kd.R_alloc | apply Kd.R_drewN | apply Kd.R_drew)); exact HO_96.out) (Kd.R_typed hraw107) (by decide) hg); have n2_ := Aside0.mk (blk_grown (g := gb101) (o := .cells #[.int .i64 a0] 2 (0, 0)) (by (with_reducible repeat (first | refine blk_drewN ?_ _ | refine blk_drew ?_ | refine blk_alloc ?_ _)); exact BK101.out) hg (Kd.R_ne hraw107 BK101.out (by decide))); have n3_ := Aside0.mk (blk_grown (g := gb102) (o := .cells #[.int .i64 a1] 2 (0, 0)) (by (with_reducible repeat (first | refine blk_drewN ?_ _ | refine blk_drew ?_ | refine blk_alloc ?_ _)); exact BK102.out) hg (Kd.R_ne hraw107 BK102.out (by decide))); have n4_ := Aside0.mk ((by rw [hw]; exact below_set HB.out GB105.out : Below w.heap.size w w108)); have n5_ := Aside0.mk (hp_); clear HO_9; clear HO_96; clear BK101; clear BK102; clear HB; clear HO139; clear HH105; have HO_9 := n0_; have HO_96 := n1_; have BK101 := n2_; have BK102 := n3_; have HB := n4_; have HO_8 := n5_; clear n0_ n1_ n2_ n3_ n4_ n5_; clear hg hw hp_ hraw107))
                                            (try rw [c69b0] at H')
                                            go_roundg k4
                                            case measure => have := HJ3.out; have := HK2.out; have := HK3.out; have := HK4.out; omega
                                            case rel => exact ⟨(y140), (x9_4), (wrap64 (x98_4 + 1)), (by first | rfl | (simp; done) | (simp [*]; done)), H', ⟨by have := HJ3.out; have := HK2.out; have := HK3.out; have := HK4.out; omega⟩, ⟨by (with_reducible repeat (first | apply Kd.S_alloc | apply Kd.S_drewN | apply Kd.S_drew)); exact HO_8.out⟩, ⟨by (with_reducible repeat (first | apply Kd.R_alloc | apply Kd.R_drewN | apply Kd.R_drew)); exact HO_9.out⟩, ⟨by (with_reducible repeat (first | apply Kd.R_alloc | apply Kd.R_drewN | apply Kd.R_drew)); exact HO_96.out⟩, ⟨by (with_reducible repeat (first | refine blk_drewN ?_ _ | refine blk_drew ?_ | refine blk_alloc ?_ _)); exact BK101.out⟩, ⟨by (with_reducible repeat (first | refine blk_drewN ?_ _ | refine blk_drew ?_ | refine blk_alloc ?_ _)); exact BK102.out⟩, ⟨by repeat (first | (with_reducible first | exact HB.out | apply below_alloc | apply pw_below_drewN | apply below_drew1 | refine below_set ?_ GE101.out | refine below_set ?_ GE102.out) | exact HB.out)⟩⟩
                                          · rw [if_neg c103] at H
                                            have c103b0 : ((rd x12_3 x98_4) == (-1)) = false := beq_eq_false_iff_ne.mpr c103
                                            have c103b1 : ((rd x12_3 x98_4) != (-1)) = true := bne_iff_ne.mpr c103
                                            by_cases c110 : 0 ≤ (rd x12_3 x98_4)
                                            · rw [if_pos c110] at H
                                              have c110b0 : decide (0 ≤ (rd x12_3 x98_4)) = true := decide_eq_true c110
                                              clear c110
                                              by_cases c111 : (rd x12_3 x98_4) < (x9_4.length : Int)
                                              · rw [if_pos c111] at H
                                                have c111b0 : decide ((rd x12_3 x98_4) < (x9_4.length : Int)) = true := decide_eq_true c111
                                                clear c111
                                                obtain ⟨y141, hy141⟩ : ∃ y_ : List Int, y_ = (x9_4.set ((rd x12_3 x98_4) : Int).toNat x98_4) := ⟨_, rfl⟩
                                                replace H : (impl_PutSets.l3 k4 y140 y141 l2 (l2.length : Int) x46_2 x12_3 (x12_3.length : Int) (wrap64 (x98_4 + 1)) a0 a1) = some (r1, r2) := by first | (rw [hy141]; with_reducible exact H) | (have H2_ := (Option.bind_some _ _).symm.trans H; rw [hy141]; with_reducible exact H2_) | (have H2_ := (Option.bind_some _ _).symm.trans H; with_reducible exact H2_) | with_reducible exact H | (rw [hy141]; exact H) | exact H
                                                have Ny141 := Aside0.mk hy141
                                                clear hy141
                                                have H' := Aside0.mk H
                                                clear H
                                                have p135 : 0 ≤ (x98_4 : Int) := of_decide_eq_true (by first | (with_reducible assumption) | assumption)
                                                have q135 : x98_4 < (x12_3.length : Int) := of_decide_eq_true (by first | (with_reducible assumption) | assumption)
                                                obtain ⟨ad135, e135, hx135_0⟩ := Kd.at_int (Kd.R_reads' HO_96.out).2.2 x98_4 p135 q135
                                                cases e135
                                                replace p135 := eq_true p135
                                                replace q135 := eq_true q135
                                                obtain ⟨Ao113, co113, eo113⟩ := Kd.S_slice HO_8.out
                                                subst eo113
                                                have p136 : 0 ≤ (x98_4 : Int) := of_decide_eq_true (by first | (with_reducible assumption) | assumption)
                                                have q136 : x98_4 < (x8_4.length : Int) := of_decide_eq_true (by first | (with_reducible assumption) | assumption)
                                                obtain ⟨ad136, A136_0, c136_0, e136, hx136_0, hl136_0, hi136_0⟩ := at_L1 (Kd.S_reads' HO_8.out).2.2 x98_4 p136 q136
                                                cases e136
                                                obtain ⟨ce136, hce136, hMe136, hcc136⟩ := Kd.S_get HO_8.out [] x98_4 p136 (by first | exact q136 | exact of_decide_eq_true (by first | (with_reducible assumption) | assumption) | (have e_ := (Kd.S_reads' HO_8.out).1; omega))
                                                obtain ⟨ve136_0, rfl, ge136_0⟩ := hMe136
                                                have hv136_0 := hcc136 0 _ rfl
                                                rw [Nat.add_zero, show ((Kd.slice 2 (Kd.int .i64))).sz = 1 from rfl, Nat.mul_one] at hv136_0
                                                replace hv136_0 := Option.some.inj (hv136_0.symm.trans hx136_0)
                                                rw [hv136_0] at ge136_0
                                                have HL136_0 := Aside0.mk (show Kd.R (Kd.int .i64) 2 _ _ _ _ (rd_L1 x8_4 x98_4) from ge136_0)
                                                clear hv136_0 ge136_0
                                                have HX136_0 := Aside0.mk hx136_0
                                                clear hcc136 hce136
                                                have HR136_0 := Aside0.mk hi136_0
                                                have HC136_0 := Aside0.mk hl136_0
                                                clear hi136_0 hl136_0
                                                replace p136 := eq_true p136
                                                replace q136 := eq_true q136
                                                obtain ⟨go114, co114, eo114, gb114, gl114, cl114, HG114⟩ := Kd.S_form HO_8.out (by have h_ : (x98_4 : Int) < ((x8_4.length : Int) : Int) := of_decide_eq_true (by first | (with_reducible assumption) | assumption); have h2_ : 0 ≤ (x98_4 : Int) := (of_decide_eq_true (by first | (with_reducible assumption) | assumption)); omega)
                                                (first | cases eo114 | (injection eo114 with ea_ en_ ec_; (first | subst ea_ | (injection ea_ with ea_; subst ea_)); subst ec_; clear en_))
                                                have GB114 := Aside0.mk gb114
                                                have GG114 := Aside0.mk HG114
                                                clear gb114 gl114 HG114
                                                (first | simp only [add_plain] at hx136_0 | skip)
                                                obtain ⟨oki114, ce114, hcl114, hM114, hcc114, _, _, hH114⟩ := Kd.S_elem HO_8.out [] (x98_4 : Int) (of_decide_eq_true (by first | (with_reducible assumption) | assumption)) (by have h_ : (x98_4 : Int) < ((x8_4.length : Int) : Int) := of_decide_eq_true (by first | (with_reducible assumption) | assumption); first | exact h_ | (have e_ := (Kd.S_reads' HO_8.out).1; omega) | simpa using h_)
                                                obtain ⟨ve114_0, rfl, ge114_0⟩ := hM114
                                                have hv114 := hcc114 0 _ rfl
                                                have hX114 := HX136_0.out
                                                (try simp only [add_plain] at hX114)
                                                (try simp only [Nat.add_zero] at hv114)
                                                (try rw [show ((Kd.slice 2 (Kd.int .i64))).sz = 1 from rfl, Nat.mul_one] at hv114)
                                                replace hv114 := Option.some.inj (hv114.symm.trans hX114)
                                                subst hv114
                                                clear hX114 hcc114 hcl114
                                                have UU114 := Aside0.mk (show Kd.R (Kd.int .i64) 2 _ w.heap.size oki114 (.slice A136_0 (rd_L1 x8_4 x98_4).length c136_0) (rd_L1 x8_4 x98_4) from ge114_0)
                                                have HH114 := Aside0.mk hH114
                                                have HN114 := Aside0.mk (Kd.S_reads' HO_8.out).1
                                                clear hH114 ge114_0
                                                go_wp2_with (first | ((with_reducible refine gate_builtin (b := .append) (xs := #[.tmp 108, .tmp 110]) rfl ?_); at_builtin; refine Kd.R_append (Kd.int .i64) (w0 := w) w.heap.size rfl (.tmp 108) (.tmp 110) 22 2 (.int .i64 0) 8 rfl Try.underlying22 info2 rfl (by decide) (by omega) (.slice A136_0 (rd_L1 x8_4 x98_4).length c136_0) (rd_L1 x8_4 x98_4) (rd x12_3 x98_4) [.int .i64 (rd x12_3 x98_4)] (fun k_ => oki114 k_ ∨ ((fun k_ => some k_ ≠ (v115 : Value).ownBlock ∧ some k_ ≠ (.slice (some ad135) x12_3.length co96 : Value).ownBlock ∧ k_ ≠ gb101 ∧ k_ ≠ gb102)) k_ ∧ wr.heap.size ≤ k_) (fun _ => False) rfl rfl ?aP (fun _ hk => hk.elim) ?aF ?aO ?aB ?aS ?aL ?_; (case aP => exact rfl); (case aB => exact (by repeat (first | (with_reducible first | exact HB.out | apply below_alloc | apply pw_below_drewN | apply below_drew1 | refine below_set ?_ GE101.out | refine below_set ?_ GE102.out) | exact HB.out))); (case aF => exact (fun k_ hk => .inr ⟨⟨Kd.fresh' (Kd.R_lt (by (with_reducible repeat (first | apply Kd.R_alloc | apply Kd.R_drewN | apply Kd.R_drew)); exact HO_9.out)) k_ hk, Kd.fresh' (Kd.R_lt (by (with_reducible repeat (first | apply Kd.R_alloc | apply Kd.R_drewN | apply Kd.R_drew)); exact HO_96.out)) k_ hk, Kd.freshB (g := gb101) (o := .cells #[.int .i64 a0] 2 (0, 0)) (by (with_reducible repeat (first | refine blk_drewN ?_ _ | refine blk_drew ?_ | refine blk_alloc ?_ _)); exact BK101.out) k_ hk, Kd.freshB (g := gb102) (o := .cells #[.int .i64 a1] 2 (0, 0)) (by (with_reducible repeat (first | refine blk_drewN ?_ _ | refine blk_drew ?_ | refine blk_alloc ?_ _)); exact BK102.out) k_ hk⟩, hk⟩)); (case aO => exact (by (with_reducible repeat (first | apply Kd.R_alloc | apply Kd.R_drewN | apply Kd.R_drew)); exact Kd.R_mono UU114.out (fun _ hk => .inl hk))); (case aS => exact (below_size (by repeat (first | (with_reducible first | exact HB.out | apply below_alloc | apply pw_below_drewN | apply below_drew1 | refine below_set ?_ GE101.out | refine below_set ?_ GE102.out) | exact HB.out)))); (case aL => have := LMc101.out; omega); intro v138 w115 ho hb hg hat; rw [← Ny137.out] at ho; have n0_ := Aside0.mk (Kd.R_grown2 (by (with_reducible repeat (first | apply Kd.R_alloc | apply Kd.R_drewN | apply Kd.R_drew)); exact HO_9.out) rfl hg (fun k_ e_ => (HL136_0.out.1 k_ e_).1.1)); have n1_ := Aside0.mk (Kd.R_grown2 (by (with_reducible repeat (first | apply Kd.R_alloc | apply Kd.R_drewN | apply Kd.R_drew)); exact HO_96.out) rfl hg (fun k_ e_ => (HL136_0.out.1 k_ e_).1.2.1)); have n2_ := Aside0.mk (blk_grown (g := gb101) (o := .cells #[.int .i64 a0] 2 (0, 0)) (by (with_reducible repeat (first | refine blk_drewN ?_ _ | refine blk_drew ?_ | refine blk_alloc ?_ _)); exact BK101.out) hg (Kd.R_away HL136_0.out (fun _ hk => hk.1.2.2.1))); have n3_ := Aside0.mk (blk_grown (g := gb102) (o := .cells #[.int .i64 a1] 2 (0, 0)) (by (with_reducible repeat (first | refine blk_drewN ?_ _ | refine blk_drew ?_ | refine blk_alloc ?_ _)); exact BK102.out) hg (Kd.R_away HL136_0.out (fun _ hk => hk.1.2.2.2))); have n4_ := Aside0.mk (hb); have n5_ := Aside0.mk (Kd.H_grown (Kd.H_widen (by repeat (first | exact HH114.out | refine Kd.H_alloc ?_ _ | refine Kd.H_drewN ?_ _ | refine Kd.H_drew ?_))) hg (fun k_ e_ => .inl (UU114.out.1 k_ e_))); have n6_ := Aside0.mk (ho); clear HO_9; clear HO_96; clear BK101; clear BK102; clear HB; clear HH114; clear HO_8; clear UU114; clear HL136_0; have HO_9 := n0_; have HO_96 := n1_; have BK101 := n2_; have BK102 := n3_; have HB := n4_; have HH114 := n5_; have HO139 := n6_; clear n0_ n1_ n2_ n3_ n4_ n5_ n6_; clear ho hb hg hat; have p102 : 0 ≤ (x98_4 : Int) := of_decide_eq_true (by first | (with_reducible assumption) | assumption); have q102 : (x98_4 : Int) < ((x8_4.length : Int) : Int) := of_decide_eq_true (by first | (with_reducible assumption) | assumption); replace p102 := eq_true p102; replace q102 := eq_true q102; obtain ⟨Ao118, co118, eo118⟩ := Kd.R_slice HO139.out; subst eo118; obtain ⟨_, _, hraw116, _, _, hcc116, _⟩ := Kd.H_raw HH114.out (of_decide_eq_true (by first | (with_reducible assumption) | assumption)) (by have h_ : (x98_4 : Int) < ((x8_4.length : Int) : Int) := of_decide_eq_true (by first | (with_reducible assumption) | assumption); first | exact h_ | (have e_ := (HN114.out); omega) | simpa using h_); obtain ⟨_, hfr116⟩ := Kd.H_at HH114.out (of_decide_eq_true (by first | (with_reducible assumption) | assumption)) (by have h_ : (x98_4 : Int) < ((x8_4.length : Int) : Int) := of_decide_eq_true (by first | (with_reducible assumption) | assumption); first | exact h_ | (have e_ := (HN114.out); omega) | simpa using h_); have hx116_0 := hcc116 0 _ rfl; have hf116_0 := hfr116 0; (try simp only [Nat.add_zero] at hx116_0 hf116_0); (try rw [show ((Kd.slice 2 (Kd.int .i64))).sz = 1 from rfl, Nat.mul_one] at hx116_0); (try rw [show ((Kd.slice 2 (Kd.int .i64))).sz = 1 from rfl, Nat.mul_one] at hf116_0); have HP116 := Kd.S_seg0 HH114.out (of_decide_eq_true (by first | (with_reducible assumption) | assumption)) (by have h_ : (x98_4 : Int) < ((x8_4.length : Int) : Int) := of_decide_eq_true (by first | (with_reducible assumption) | assumption); first | exact h_ | (have e_ := (HN114.out); omega) | simpa using h_) (seg := [.slice Ao118 y137.length co118]) (j := 0) (show 1 ≤ 1 from by decide) (x' := y137) (Kd.M_row HO139.out) (fun _ hk => hk); (try simp only [show ((Kd.slice 2 (Kd.int .i64))).sz = 1 from rfl, Nat.mul_one, Nat.add_zero] at HP116); (try clear hcc116); (try clear hfr116)) | ((with_reducible refine gate_store (t := 22) (p := 112) rfl ?_); refine store_event (t := 22) (p := 112) (v := ?vo_w117) (w1 := (w115.setCell ⟨go114, (x98_4 : Int).toNat, none⟩ (.slice Ao118 y137.length co118))) ?hg ?ho ?hn ?hr ?_; (case ho => rfl); (case hg => rfl); (case hn => rfl); (case hr => first | (go_simp; done) | (go_simp; rfl)); intro w117 hw; have hg : w115.grownBy w117 (some go114) := (by rw [hw]; exact HP116.2); have hp_ : Kd.S (Kd.slice 2 (Kd.int .i64)) 22 w117 w.heap.size (fun k_ => some k_ ≠ (v115 : Value).ownBlock ∧ some k_ ≠ (.slice (some ad135) x12_3.length co96 : Value).ownBlock ∧ k_ ≠ gb101 ∧ k_ ≠ gb102) (.slice (some ⟨go114, 0, none⟩) x8_4.length co113) y140 := (by rw [hw, Ny140.out]; exact HP116.1); clear HP116; have n0_ := Aside0.mk (Kd.R_over' (v := (.slice (some ⟨go114, 0, none⟩) x8_4.length co113)) (by (with_reducible repeat (first | apply Kd.R_alloc | apply Kd.R_drewN | apply Kd.R_drew)); exact HO_9.out) (Kd.R_typed hraw116) (by decide) hg); have n1_ := Aside0.mk (Kd.R_over' (v := (.slice (some ⟨go114, 0, none⟩) x8_4.length co113)) (by (with_reducible repeat (first | apply Kd.R_alloc | apply Kd.R_drewN | apply Kd.R_drew)); exact HO_96.out) (Kd.R_typed hraw116) (by decide) hg); have n2_ := Aside0.mk (blk_grown (g := gb101) (o := .cells #[.int .i64 a0] 2 (0, 0)) (by (with_reducible repeat (first | refine blk_drewN ?_ _ | refine blk_drew ?_ | refine blk_alloc ?_ _)); exact BK101.out) hg (Kd.R_ne hraw116 BK101.out (by decide))); have n3_ := Aside0.mk (blk_grown (g := gb102) (o := .cells #[.int .i64 a1] 2 (0, 0)) (by (with_reducible repeat (first | refine blk_drewN ?_ _ | refine blk_drew ?_ | refine blk_alloc ?_ _)); exact BK102.out) hg (Kd.R_ne hraw116 BK102.out (by decide))); have n4_ := Aside0.mk ((by rw [hw]; exact below_set HB.out GB114.out : Below w.heap.size w w117)); have n5_ := Aside0.mk (hp_); clear HO_9; clear HO_96; clear BK101; clear BK102; clear HB; clear HO139; clear HH114; have HO_9 := n0_; have HO_96 := n1_; have BK101 := n2_; have BK102 := n3_; have HB := n4_; have HO_8 := n5_; clear n0_ n1_ n2_ n3_ n4_ n5_; clear hg hw hp_ hraw116; have p112 : 0 ≤ ((rd x12_3 x98_4) : Int) := of_decide_eq_true (by first | (with_reducible assumption) | assumption); have q112 : ((rd x12_3 x98_4) : Int) < ((x9_4.length : Int) : Int) := of_decide_eq_true (by first | (with_reducible assumption) | assumption); obtain ⟨go112, co112, eo112, gb112, gl112, cl112, HG112⟩ := Kd.R_form HO_9.out (by omega); (first | cases eo112 | (injection eo112 with ea_ en_ ec_; (first | subst ea_ | (injection ea_ with ea_; subst ea_)); subst ec_; clear en_)); have GB112 := Aside0.mk gb112; have GG112 := Aside0.mk HG112; clear gb112 gl112 HG112; obtain ⟨hx112_0, hf112_0⟩ := Kd.R_celln 0 HO_9.out ((rd x12_3 x98_4) : Int) p112 q112; replace p112 := eq_true p112; replace q112 := eq_true q112; obtain ⟨hy119_, hz119_⟩ := Kd.R_celln 0 HO_9.out ((rd x12_3 x98_4) : Int) (of_decide_eq_true (by first | (with_reducible assumption) | assumption)) (of_decide_eq_true (by first | (with_reducible assumption) | assumption)); have HP119 := Kd.R_putg HO_9.out ((rd x12_3 x98_4) : Int) x98_4) | ((with_reducible refine gate_store (t := 2) (p := 118) rfl ?_); refine store_event (t := 2) (p := 118) (v := ?vo_w120) (w1 := (w117.setCell ⟨go112, ((rd x12_3 x98_4) : Int).toNat, none⟩ (.int .i64 x98_4))) ?hg ?ho ?hn ?hr ?_; (case ho => rfl); (case hg => rfl); (case hn => rfl); (case hr => first | (go_simp; done) | (go_simp; rfl)); intro w120 hw; have hg : w117.grownBy w120 (some go112) := (by rw [hw]; exact HP119.2); have hp_ : Kd.R (Kd.int .i64) 2 w120 w.heap.size (fun k_ => some k_ ≠ (.slice (some ad135) x12_3.length co96 : Value).ownBlock ∧ k_ ≠ gb101 ∧ k_ ≠ gb102) (.slice (some ⟨go112, 0, none⟩) x9_4.length co112) y141 := (by rw [hw, Ny141.out]; exact HP119.1); clear HP119; have n0_ := Aside0.mk (hp_); have n1_ := Aside0.mk (Kd.R_after (v := (.slice (some ⟨go112, 0, none⟩) x9_4.length co112)) (v1 := (.slice (some ⟨go112, 0, none⟩) x9_4.length co112)) (ok := (fun k_ => k_ ≠ gb101 ∧ k_ ≠ gb102)) (by (with_reducible repeat (first | apply Kd.R_alloc | apply Kd.R_drewN | apply Kd.R_drew)); exact Kd.R_mono HO_96.out (fun _ hk => ⟨⟨hk.2.1, hk.2.2⟩, hk.1⟩)) hg (.inl rfl)); have n2_ := Aside0.mk (blk_grown (g := gb101) (o := .cells #[.int .i64 a0] 2 (0, 0)) (by (with_reducible repeat (first | refine blk_drewN ?_ _ | refine blk_drew ?_ | refine blk_alloc ?_ _)); exact BK101.out) hg (Kd.R_away HO_9.out (fun _ hk => hk.2.1))); have n3_ := Aside0.mk (blk_grown (g := gb102) (o := .cells #[.int .i64 a1] 2 (0, 0)) (by (with_reducible repeat (first | refine blk_drewN ?_ _ | refine blk_drew ?_ | refine blk_alloc ?_ _)); exact BK102.out) hg (Kd.R_away HO_9.out (fun _ hk => hk.2.2))); have n4_ := Aside0.mk (Kd.S_after (v := (.slice (some ⟨go112, 0, none⟩) x9_4.length co112)) (v1 := (.slice (some ⟨go112, 0, none⟩) x9_4.length co112)) (ok := (fun k_ => some k_ ≠ (.slice (some ad135) x12_3.length co96 : Value).ownBlock ∧ k_ ≠ gb101 ∧ k_ ≠ gb102)) (by (with_reducible repeat (first | apply Kd.S_alloc | apply Kd.S_drewN | apply Kd.S_drew)); exact Kd.S_mono HO_8.out (fun _ hk => ⟨⟨hk.2.1, ⟨hk.2.2.1, hk.2.2.2⟩⟩, hk.1⟩)) hg (.inl rfl)); have n5_ := Aside0.mk ((by rw [hw]; exact below_set (HB.out) GB112.out : Below w.heap.size w w120)); clear HO_9; clear HO_96; clear BK101; clear BK102; clear HO_8; clear HB; have HO_9 := n0_; have HO_96 := n1_; have BK101 := n2_; have BK102 := n3_; have HO_8 := n4_; have HB := n5_; clear n0_ n1_ n2_ n3_ n4_ n5_; clear hg hw hp_))
                                                (try rw [c69b0] at H')
                                                go_roundg k4
                                                case measure => have := HJ3.out; have := HK2.out; have := HK3.out; have := HK4.out; omega
                                                case rel => exact ⟨(y140), (y141), (wrap64 (x98_4 + 1)), (by first | rfl | (simp; done) | (simp [*]; done)), H', ⟨by have := HJ3.out; have := HK2.out; have := HK3.out; have := HK4.out; omega⟩, ⟨by (with_reducible repeat (first | apply Kd.S_alloc | apply Kd.S_drewN | apply Kd.S_drew)); exact Kd.S_mono HO_8.out (fun _ hk => ⟨hk.2, ⟨hk.1.1, ⟨hk.1.2.1, hk.1.2.2⟩⟩⟩)⟩, ⟨by (with_reducible repeat (first | apply Kd.R_alloc | apply Kd.R_drewN | apply Kd.R_drew)); exact HO_9.out⟩, ⟨by (with_reducible repeat (first | apply Kd.R_alloc | apply Kd.R_drewN | apply Kd.R_drew)); exact Kd.R_mono HO_96.out (fun _ hk => ⟨hk.2, ⟨hk.1.1, hk.1.2⟩⟩)⟩, ⟨by (with_reducible repeat (first | refine blk_drewN ?_ _ | refine blk_drew ?_ | refine blk_alloc ?_ _)); exact BK101.out⟩, ⟨by (with_reducible repeat (first | refine blk_drewN ?_ _ | refine blk_drew ?_ | refine blk_alloc ?_ _)); exact BK102.out⟩, ⟨by repeat (first | (with_reducible first | exact HB.out | apply below_alloc | apply pw_below_drewN | apply below_drew1 | refine below_set ?_ GE101.out | refine below_set ?_ GE102.out) | exact HB.out)⟩⟩
                                              · rw [if_neg c111] at H
                                                exact absurd H (by simp)
                                            · rw [if_neg c110] at H
                                              exact absurd H (by simp)
                                        · rw [if_neg c101] at H
                                          exact absurd H (by simp)
                                      · rw [if_neg c100] at H
                                        exact absurd H (by simp)
                                    · rw [if_neg c99] at H
                                      exact absurd H (by simp)
                                  · rw [if_neg c98] at H
                                    exact absurd H (by simp)
                                · rw [if_neg c97] at H
                                  have c97b0 : decide (x98_4 < (x12_3.length : Int)) = false := decide_eq_false c97
                                  clear c97
                                  have H' := Aside0.mk H
                                  clear H
                                  go_wp2
                                  (try rw [c69b0] at H')
                                  go_roundg k4
                                  case measure => have := HJ3.out; have := HK2.out; have := HK3.out; have := HK4.out; omega
                                  case rel => exact ⟨(x8_4), (x9_4), (wrap64 (x46_2 + 1)), (by first | rfl | (simp; done) | (simp [*]; done)), H', ⟨by have := HJ3.out; have := HK2.out; have := HK3.out; have := HK4.out; omega⟩, ⟨by (with_reducible repeat (first | apply Kd.S_alloc | apply Kd.S_drewN | apply Kd.S_drew)); exact Kd.S_mono HO_8.out (fun _ hk => ⟨hk.1, ⟨hk.2.2.1, hk.2.2.2⟩⟩)⟩, ⟨by (with_reducible repeat (first | apply Kd.R_alloc | apply Kd.R_drewN | apply Kd.R_drew)); exact Kd.R_mono HO_9.out (fun _ hk => ⟨hk.2.1, hk.2.2⟩)⟩, ⟨by (with_reducible repeat (first | refine blk_drewN ?_ _ | refine blk_drew ?_ | refine blk_alloc ?_ _)); exact BK101.out⟩, ⟨by (with_reducible repeat (first | refine blk_drewN ?_ _ | refine blk_drew ?_ | refine blk_alloc ?_ _)); exact BK102.out⟩, ⟨by repeat (first | (with_reducible first | exact HB.out | apply below_alloc | apply pw_below_drewN | apply below_drew1 | refine below_set ?_ GE101.out | refine below_set ?_ GE102.out) | exact HB.out)⟩⟩
                    · rw [if_neg c42] at H
                      exact absurd H (by simp)
                  · rw [if_neg c41] at H
                    exact absurd H (by simp)
                · rw [if_neg c40] at H
                  have c40b0 : decide (x46_2 < (l2.length : Int)) = false := decide_eq_false c40
                  clear c40
                  simp only [Option.some.injEq, Prod.mk.injEq] at H
                  obtain ⟨rfl, rfl⟩ := H
                  go_wp2
                  go_ret2
                  exact ⟨_, by first | rfl | (simp [errW_none, errW_some] <;> rfl) | (simp [*, errW_none, errW_some] <;> rfl), by (with_reducible repeat (first | apply Kd.S_alloc | apply Kd.S_drewN | apply Kd.S_drew)); exact Kd.S_mono HO_8.out (fun _ hk => trivial), by repeat (first | (with_reducible first | exact HB.out | apply below_alloc | apply pw_below_drewN | apply below_drew1 | refine below_set ?_ GE101.out | refine below_set ?_ GE102.out) | exact HB.out)⟩
          · rw [if_neg c29] at H
            exact absurd H (by simp)
        · rw [if_neg c28] at H
          exact absurd H (by simp)
end Go.Proofs.Ytnmpjikiodnmnaa.P
end
section
namespace Go.Proofs.Ytnmpjikiodnmnaa.P
open Go.RowKit Go.Proofs.YtnmpjikiodnmnaaW.PrintWords Go.Proofs.YtnmpjikiodnmnaaW.PrintLast Go.Proofs.YtnmpjikiodnmnaaW.PrintMore
attribute [local go_sem] max2_int min2_int max_two min_two max_three min_three max_four min_four   -- for this text's walks alone
set_option linter.unusedVariables false
set_option linter.unusedSimpArgs false
end Go.Proofs.Ytnmpjikiodnmnaa.P
end
