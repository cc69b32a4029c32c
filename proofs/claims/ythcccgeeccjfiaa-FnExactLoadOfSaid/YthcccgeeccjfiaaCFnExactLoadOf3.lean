/- The program's LoadOf returns what the reference's returns, for all jobs; no condition beside. -/
import Derived.Test.YthcccgeeccjfiaaCFnExactLoadOf2
import Derived.Test.YthcccgeeccjfiaaRows
namespace Go.Proofs.Ythcccgeeccjfiaa.P
open Go.RowKit Go.Proofs.YthcccgeeccjfiaaW.PrintWords Go.Proofs.YthcccgeeccjfiaaW.PrintLast Go.Proofs.YthcccgeeccjfiaaW.PrintMore
attribute [local go_sem] max2_int min2_int max_two min_two max_three min_three max_four min_four   -- for this text's walks alone
set_option linter.unusedVariables false
set_option linter.unusedSimpArgs false

/-! ### spec_l04Code: function 57 -/
def spec_l04Code.f (k : Nat) (l0_0 : List Int) (l0_1 : List Int) (l0_2 : List Int) : Option (Int) := (spec_l04Is.f k l0_0 l0_1 l0_2).bind fun t102 => (if t102 = true then ((spec_l04Whole.f k l0_0 l0_1 l0_2).bind fun t103 => (if t103 > 240 then (some 3) else (some 0))) else (some 1))
theorem spec_l04Code.mono : ∀ a0 a1 a2 k, LeO (spec_l04Code.f k a0 a1 a2) (spec_l04Code.f (k + 1) a0 a1 a2) := by
  intro a0 a1 a2 k
  unfold spec_l04Code.f
  repeat' first
      | (with_reducible exact spec_l04Is.mono _ _ _ _)
      | (with_reducible exact spec_l04Whole.mono _ _ _ _)
      | (with_reducible exact LeO.refl _)
      | (with_reducible exact LeO.none _)
      | (with_reducible refine LeO.ite ?_ ?_)
      | (with_reducible refine LeO.bind ?_ (fun _ => ?_))
      | exact spec_l04Is.mono _ _ _ _
      | exact spec_l04Whole.mono _ _ _ _
      | exact LeO.none _
      | refine LeO.ite ?_ ?_
      | refine LeO.bind ?_ (fun _ => ?_)
set_option maxHeartbeats 8000000 in
set_option maxRecDepth 100000 in
theorem spec_l04Code.calls (k : Nat) (A0_0 : Option Addr) (c0_0 : Nat) (l0_0 : List Int) (A0_1 : Option Addr) (c0_1 : Nat) (l0_1 : List Int) (A0_2 : Option Addr) (c0_2 : Nat) (l0_2 : List Int) (r : Int) (w : World) (hr0_0 : Kd.C (Kd.int .i64) w A0_0 l0_0.length l0_0) (hc0_0 : l0_0.length ≤ c0_0) (hr0_1 : Kd.C (Kd.int .i64) w A0_1 l0_1.length l0_1) (hc0_1 : l0_1.length ≤ c0_1) (hr0_2 : Kd.C (Kd.int .i64) w A0_2 l0_2.length l0_2) (hc0_2 : l0_2.length ≤ c0_2) (h : spec_l04Code.f k l0_0 l0_1 l0_2 = some r) :
    Calls Try.prog 57 #[.agg #[.slice A0_0 l0_0.length c0_0, .slice A0_1 l0_1.length c0_1, .slice A0_2 l0_2.length c0_2]] w fun e w' => e = .returned (.int .i64 r) ∧ Below w.heap.size w w' := by
  have hu28 := Try.underlying28
  have HR0_0 := Aside0.mk hr0_0
  have HC0_0 := Aside0.mk hc0_0
  clear hr0_0 hc0_0
  have HR0_1 := Aside0.mk hr0_1
  have HC0_1 := Aside0.mk hc0_1
  clear hr0_1 hc0_1
  have HR0_2 := Aside0.mk hr0_2
  have HC0_2 := Aside0.mk hc0_2
  clear hr0_2 hc0_2
  have HB := Aside0.mk (Below.refl w.heap.size w)
  have H : ((spec_l04Is.f k l0_0 l0_1 l0_2).bind fun t102 => (if t102 = true then ((spec_l04Whole.f k l0_0 l0_1 l0_2).bind fun t103 => (if t103 > 240 then (some 3) else (some 0))) else (some 1))) = some r := h
  clear h
  replace H := Option.bind_eq_some_iff.mp H
  obtain ⟨t102, A20, H⟩ := H
  replace H : (if t102 = true then ((spec_l04Whole.f k l0_0 l0_1 l0_2).bind fun t103 => (if t103 > 240 then (some 3) else (some 0))) else (some 1)) = some r := H
  have A2 := Aside0.mk A20
  clear A20
  by_cases c3 : t102 = true
  · subst c3
    have H1 : ((spec_l04Whole.f k l0_0 l0_1 l0_2).bind fun t103 => (if t103 > 240 then (some 3) else (some 0))) = some r := by rw [if_pos rfl] at H; exact H
    clear H
    have H := H1
    clear H1
    replace H := Option.bind_eq_some_iff.mp H
    obtain ⟨t103, A40, H⟩ := H
    replace H : (if t103 > 240 then (some 3) else (some 0)) = some r := H
    have A4 := Aside0.mk A40
    clear A40
    by_cases c5 : t103 > 240
    · rw [if_pos c5] at H
      have c5b0 : decide (240 < t103) = true := decide_eq_true c5
      clear c5
      obtain rfl := Option.some.inj H
      go_enter Try.func57, Try.ntmps57
      go_wp2_with (first | ((with_reducible refine gate_dst (N := 1) rfl ?_); refine box_event ?hg (N := 1) ?hd (cs := #[.slice A0_0 l0_0.length c0_0, .slice A0_1 l0_1.length c0_1, .slice A0_2 l0_2.length c0_2]) (t := 28) ?hr ?_; (case hd => rfl); (case hg => rfl); (case hr => first | (go_simp; done) | (go_simp; rfl)); intro gb101 hg w6 hbox hb; have n0_ := Aside0.mk (below_step (by repeat (first | (with_reducible first | exact HB.out | apply below_alloc | apply pw_below_drewN | apply below_drew1) | exact HB.out)) hb); have n1_ := Aside0.mk (hbox); have n2_ := Aside0.mk ((by rw [hg]; exact (below_size (by repeat (first | (with_reducible first | exact HB.out | apply below_alloc | apply pw_below_drewN | apply below_drew1) | exact HB.out))) : w.heap.size ≤ gb101)); have n3_ := Aside0.mk ((by rw [hg]; exact (below_size (by repeat (first | (with_reducible first | exact HB.out | apply below_alloc | apply pw_below_drewN | apply below_drew1) | exact HB.out))) : w.heap.size ≤ gb101)); clear HB; have HB := n0_; have BK101 := n1_; have GW101 := n2_; have GE101 := n3_; clear n0_ n1_ n2_ n3_; clear hb hbox hg; have hcz7_0 : w6.cell? ⟨gb101, 0, none⟩ = some (.slice A0_0 l0_0.length c0_0) := (blk_cell BK101.out 0).trans rfl; have hcz7_1 : w6.cell? ⟨gb101, 1, none⟩ = some (.slice A0_1 l0_1.length c0_1) := (blk_cell BK101.out 1).trans rfl; have hcz7_2 : w6.cell? ⟨gb101, 2, none⟩ = some (.slice A0_2 l0_2.length c0_2) := (blk_cell BK101.out 2).trans rfl; have hfz7_0 := blk_frozen BK101.out 0; have hfz7_1 := blk_frozen BK101.out 1; have hfz7_2 := blk_frozen BK101.out 2) | ((with_reducible refine gate_callee (f := 53) rfl ?_); refine goesL_ (some 5) rfl rfl Try.func53 (by kernel_rfl) rfl #[.agg #[.slice A0_0 l0_0.length c0_0, .slice A0_1 l0_1.length c0_1, .slice A0_2 l0_2.length c0_2]] rfl (by (try simp only [List.map_toArray, List.map_cons, List.map_nil]); first | done | rfl | (simp only [List.length_drop, List.length_take]; rfl)) ?_; (with_reducible refine (spec_l04Is.calls k _ _ l0_0 _ _ l0_1 _ _ l0_2 true _ ?side1 ?side2 ?side3 ?side4 ?side5 ?side6 A2.out).mono ?_); (case side1 => repeat (first | exact (Kd.C_below HR0_0.out HB.out) | (with_reducible refine Kd.C_alloc ?_ _) | (with_reducible refine Kd.C_drewN ?_ _) | (with_reducible refine Kd.C_drew ?_))); (case side2 => exact HC0_0.out); (case side3 => repeat (first | exact (Kd.C_below HR0_1.out HB.out) | (with_reducible refine Kd.C_alloc ?_ _) | (with_reducible refine Kd.C_drewN ?_ _) | (with_reducible refine Kd.C_drew ?_))); (case side4 => exact HC0_1.out); (case side5 => repeat (first | exact (Kd.C_below HR0_2.out HB.out) | (with_reducible refine Kd.C_alloc ?_ _) | (with_reducible refine Kd.C_drewN ?_ _) | (with_reducible refine Kd.C_drew ?_))); (case side6 => exact HC0_2.out); rintro e w8 ⟨rfl, hb⟩; refine ⟨_, rfl, ?_⟩; have n0_ := Aside0.mk (blk_below (g := gb101) (o := .cells #[.slice A0_0 l0_0.length c0_0, .slice A0_1 l0_1.length c0_1, .slice A0_2 l0_2.length c0_2] 28 (0, 0)) (by (with_reducible repeat (first | refine blk_drewN ?_ _ | refine blk_drew ?_ | refine blk_alloc ?_ _)); exact BK101.out) hb); have n1_ := Aside0.mk (below_step (by repeat (first | (with_reducible first | exact HB.out | apply below_alloc | apply pw_below_drewN | apply below_drew1 | refine below_set ?_ GE101.out) | exact HB.out)) hb); clear BK101; clear HB; have BK101 := n0_; have HB := n1_; clear n0_ n1_; (try clear hb); (try clear hb2); (try clear hk); (try clear hi); have hcz9_0 : w8.cell? ⟨gb101, 0, none⟩ = some (.slice A0_0 l0_0.length c0_0) := (blk_cell BK101.out 0).trans rfl; have hcz9_1 : w8.cell? ⟨gb101, 1, none⟩ = some (.slice A0_1 l0_1.length c0_1) := (blk_cell BK101.out 1).trans rfl; have hcz9_2 : w8.cell? ⟨gb101, 2, none⟩ = some (.slice A0_2 l0_2.length c0_2) := (blk_cell BK101.out 2).trans rfl; have hfz9_0 := blk_frozen BK101.out 0; have hfz9_1 := blk_frozen BK101.out 1; have hfz9_2 := blk_frozen BK101.out 2) | ((with_reducible refine gate_callee (f := 58) rfl ?_); refine goesL_ (some 9) rfl rfl Try.func58 (by kernel_rfl) rfl #[.agg #[.slice A0_0 l0_0.length c0_0, .slice A0_1 l0_1.length c0_1, .slice A0_2 l0_2.length c0_2]] rfl (by (try simp only [List.map_toArray, List.map_cons, List.map_nil]); first | done | rfl | (simp only [List.length_drop, List.length_take]; rfl)) ?_; (with_reducible refine (spec_l04Whole.calls k _ _ l0_0 _ _ l0_1 _ _ l0_2 t103 _ ?side1 ?side2 ?side3 ?side4 ?side5 ?side6 A4.out).mono ?_); (case side1 => repeat (first | exact (Kd.C_below HR0_0.out HB.out) | (with_reducible refine Kd.C_alloc ?_ _) | (with_reducible refine Kd.C_drewN ?_ _) | (with_reducible refine Kd.C_drew ?_))); (case side2 => exact HC0_0.out); (case side3 => repeat (first | exact (Kd.C_below HR0_1.out HB.out) | (with_reducible refine Kd.C_alloc ?_ _) | (with_reducible refine Kd.C_drewN ?_ _) | (with_reducible refine Kd.C_drew ?_))); (case side4 => exact HC0_1.out); (case side5 => repeat (first | exact (Kd.C_below HR0_2.out HB.out) | (with_reducible refine Kd.C_alloc ?_ _) | (with_reducible refine Kd.C_drewN ?_ _) | (with_reducible refine Kd.C_drew ?_))); (case side6 => exact HC0_2.out); rintro e w10 ⟨rfl, hb⟩; refine ⟨_, rfl, ?_⟩; have n0_ := Aside0.mk (blk_below (g := gb101) (o := .cells #[.slice A0_0 l0_0.length c0_0, .slice A0_1 l0_1.length c0_1, .slice A0_2 l0_2.length c0_2] 28 (0, 0)) (by (with_reducible repeat (first | refine blk_drewN ?_ _ | refine blk_drew ?_ | refine blk_alloc ?_ _)); exact BK101.out) hb); have n1_ := Aside0.mk (below_step (by repeat (first | (with_reducible first | exact HB.out | apply below_alloc | apply pw_below_drewN | apply below_drew1 | refine below_set ?_ GE101.out) | exact HB.out)) hb); clear BK101; clear HB; have BK101 := n0_; have HB := n1_; clear n0_ n1_; (try clear hb); (try clear hb2); (try clear hk); (try clear hi)))
      go_ret
      exact ⟨by first | rfl | (simp [errW_none, errW_some] <;> rfl) | (simp [*, errW_none, errW_some] <;> rfl), by repeat (first | (with_reducible first | exact HB.out | apply below_alloc | apply pw_below_drewN | apply below_drew1 | refine below_set ?_ GE101.out) | exact HB.out)⟩
    · rw [if_neg c5] at H
      have c5b0 : decide (240 < t103) = false := decide_eq_false c5
      clear c5
      obtain rfl := Option.some.inj H
      go_enter Try.func57, Try.ntmps57
      go_wp2_with (first | ((with_reducible refine gate_dst (N := 1) rfl ?_); refine box_event ?hg (N := 1) ?hd (cs := #[.slice A0_0 l0_0.length c0_0, .slice A0_1 l0_1.length c0_1, .slice A0_2 l0_2.length c0_2]) (t := 28) ?hr ?_; (case hd => rfl); (case hg => rfl); (case hr => first | (go_simp; done) | (go_simp; rfl)); intro gb101 hg w11 hbox hb; have n0_ := Aside0.mk (below_step (by repeat (first | (with_reducible first | exact HB.out | apply below_alloc | apply pw_below_drewN | apply below_drew1) | exact HB.out)) hb); have n1_ := Aside0.mk (hbox); have n2_ := Aside0.mk ((by rw [hg]; exact (below_size (by repeat (first | (with_reducible first | exact HB.out | apply below_alloc | apply pw_below_drewN | apply below_drew1) | exact HB.out))) : w.heap.size ≤ gb101)); have n3_ := Aside0.mk ((by rw [hg]; exact (below_size (by repeat (first | (with_reducible first | exact HB.out | apply below_alloc | apply pw_below_drewN | apply below_drew1) | exact HB.out))) : w.heap.size ≤ gb101)); clear HB; have HB := n0_; have BK101 := n1_; have GW101 := n2_; have GE101 := n3_; clear n0_ n1_ n2_ n3_; clear hb hbox hg; have hcz12_0 : w11.cell? ⟨gb101, 0, none⟩ = some (.slice A0_0 l0_0.length c0_0) := (blk_cell BK101.out 0).trans rfl; have hcz12_1 : w11.cell? ⟨gb101, 1, none⟩ = some (.slice A0_1 l0_1.length c0_1) := (blk_cell BK101.out 1).trans rfl; have hcz12_2 : w11.cell? ⟨gb101, 2, none⟩ = some (.slice A0_2 l0_2.length c0_2) := (blk_cell BK101.out 2).trans rfl; have hfz12_0 := blk_frozen BK101.out 0; have hfz12_1 := blk_frozen BK101.out 1; have hfz12_2 := blk_frozen BK101.out 2) | ((with_reducible refine gate_callee (f := 53) rfl ?_); refine goesL_ (some 5) rfl rfl Try.func53 (by kernel_rfl) rfl #[.agg #[.slice A0_0 l0_0.length c0_0, .slice A0_1 l0_1.length c0_1, .slice A0_2 l0_2.length c0_2]] rfl (by (try simp only [List.map_toArray, List.map_cons, List.map_nil]); first | done | rfl | (simp only [List.length_drop, List.length_take]; rfl)) ?_; (with_reducible refine (spec_l04Is.calls k _ _ l0_0 _ _ l0_1 _ _ l0_2 true _ ?side1 ?side2 ?side3 ?side4 ?side5 ?side6 A2.out).mono ?_); (case side1 => repeat (first | exact (Kd.C_below HR0_0.out HB.out) | (with_reducible refine Kd.C_alloc ?_ _) | (with_reducible refine Kd.C_drewN ?_ _) | (with_reducible refine Kd.C_drew ?_))); (case side2 => exact HC0_0.out); (case side3 => repeat (first | exact (Kd.C_below HR0_1.out HB.out) | (with_reducible refine Kd.C_alloc ?_ _) | (with_reducible refine Kd.C_drewN ?_ _) | (with_reducible refine Kd.C_drew ?_))); (case side4 => exact HC0_1.out); (case side5 => repeat (first | exact (Kd.C_below HR0_2.out HB.out) | (with_reducible refine Kd.C_alloc ?_ _) | (with_reducible refine Kd.C_drewN ?_ _) | (with_reducible refine Kd.C_drew ?_))); (case side6 => exact HC0_2.out); rintro e w13 ⟨rfl, hb⟩; refine ⟨_, rfl, ?_⟩; have n0_ := Aside0.mk (blk_below (g := gb101) (o := .cells #[.slice A0_0 l0_0.length c0_0, .slice A0_1 l0_1.length c0_1, .slice A0_2 l0_2.length c0_2] 28 (0, 0)) (by (with_reducible repeat (first | refine blk_drewN ?_ _ | refine blk_drew ?_ | refine blk_alloc ?_ _)); exact BK101.out) hb); have n1_ := Aside0.mk (below_step (by repeat (first | (with_reducible first | exact HB.out | apply below_alloc | apply pw_below_drewN | apply below_drew1 | refine below_set ?_ GE101.out) | exact HB.out)) hb); clear BK101; clear HB; have BK101 := n0_; have HB := n1_; clear n0_ n1_; (try clear hb); (try clear hb2); (try clear hk); (try clear hi); have hcz14_0 : w13.cell? ⟨gb101, 0, none⟩ = some (.slice A0_0 l0_0.length c0_0) := (blk_cell BK101.out 0).trans rfl; have hcz14_1 : w13.cell? ⟨gb101, 1, none⟩ = some (.slice A0_1 l0_1.length c0_1) := (blk_cell BK101.out 1).trans rfl; have hcz14_2 : w13.cell? ⟨gb101, 2, none⟩ = some (.slice A0_2 l0_2.length c0_2) := (blk_cell BK101.out 2).trans rfl; have hfz14_0 := blk_frozen BK101.out 0; have hfz14_1 := blk_frozen BK101.out 1; have hfz14_2 := blk_frozen BK101.out 2) | ((with_reducible refine gate_callee (f := 58) rfl ?_); refine goesL_ (some 9) rfl rfl Try.func58 (by kernel_rfl) rfl #[.agg #[.slice A0_0 l0_0.length c0_0, .slice A0_1 l0_1.length c0_1, .slice A0_2 l0_2.length c0_2]] rfl (by (try simp only [List.map_toArray, List.map_cons, List.map_nil]); first | done | rfl | (simp only [List.length_drop, List.length_take]; rfl)) ?_; (with_reducible refine (spec_l04Whole.calls k _ _ l0_0 _ _ l0_1 _ _ l0_2 t103 _ ?side1 ?side2 ?side3 ?side4 ?side5 ?side6 A4.out).mono ?_); (case side1 => repeat (first | exact (Kd.C_below HR0_0.out HB.out) | (with_reducible refine Kd.C_alloc ?_ _) | (with_reducible refine Kd.C_drewN ?_ _) | (with_reducible refine Kd.C_drew ?_))); (case side2 => exact HC0_0.out); (case side3 => repeat (first | exact (Kd.C_below HR0_1.out HB.out) | (with_reducible refine Kd.C_alloc ?_ _) | (with_reducible refine Kd.C_drewN ?_ _) | (with_reducible refine Kd.C_drew ?_))); (case side4 => exact HC0_1.out); (case side5 => repeat (first | exact (Kd.C_below HR0_2.out HB.out) | (with_reducible refine Kd.C_alloc ?_ _) | (with_reducible refine Kd.C_drewN ?_ _) | (with_reducible refine Kd.C_drew ?_))); (case side6 => exact HC0_2.out); rintro e w15 ⟨rfl, hb⟩; refine ⟨_, rfl, ?_⟩; have n0_ := Aside0.mk (blk_below (g := gb101) (o := .cells #[.slice A0_0 l0_0.length c0_0, .slice A0_1 l0_1.length c0_1, .slice A0_2 l0_2.length c0_2] 28 (0, 0)) (by (with_reducible repeat (first | refine blk_drewN ?_ _ | refine blk_drew ?_ | refine blk_alloc ?_ _)); exact BK101.out) hb); have n1_ := Aside0.mk (below_step (by repeat (first | (with_reducible first | exact HB.out | apply below_alloc | apply pw_below_drewN | apply below_drew1 | refine below_set ?_ GE101.out) | exact HB.out)) hb); clear BK101; clear HB; have BK101 := n0_; have HB := n1_; clear n0_ n1_; (try clear hb); (try clear hb2); (try clear hk); (try clear hi)))
      go_ret
      exact ⟨by first | rfl | (simp [errW_none, errW_some] <;> rfl) | (simp [*, errW_none, errW_some] <;> rfl), by repeat (first | (with_reducible first | exact HB.out | apply below_alloc | apply pw_below_drewN | apply below_drew1 | refine below_set ?_ GE101.out) | exact HB.out)⟩
  · replace c3 := Bool.eq_false_iff.mpr c3
    subst c3
    have H1 : (some 1) = some r := by rw [if_neg (show ¬ (false = true) by decide)] at H; exact H
    clear H
    have H := H1
    clear H1
    obtain rfl := Option.some.inj H
    go_enter Try.func57, Try.ntmps57
    go_wp2_with (first | ((with_reducible refine gate_dst (N := 1) rfl ?_); refine box_event ?hg (N := 1) ?hd (cs := #[.slice A0_0 l0_0.length c0_0, .slice A0_1 l0_1.length c0_1, .slice A0_2 l0_2.length c0_2]) (t := 28) ?hr ?_; (case hd => rfl); (case hg => rfl); (case hr => first | (go_simp; done) | (go_simp; rfl)); intro gb101 hg w16 hbox hb; have n0_ := Aside0.mk (below_step (by repeat (first | (with_reducible first | exact HB.out | apply below_alloc | apply pw_below_drewN | apply below_drew1) | exact HB.out)) hb); have n1_ := Aside0.mk (hbox); have n2_ := Aside0.mk ((by rw [hg]; exact (below_size (by repeat (first | (with_reducible first | exact HB.out | apply below_alloc | apply pw_below_drewN | apply below_drew1) | exact HB.out))) : w.heap.size ≤ gb101)); have n3_ := Aside0.mk ((by rw [hg]; exact (below_size (by repeat (first | (with_reducible first | exact HB.out | apply below_alloc | apply pw_below_drewN | apply below_drew1) | exact HB.out))) : w.heap.size ≤ gb101)); clear HB; have HB := n0_; have BK101 := n1_; have GW101 := n2_; have GE101 := n3_; clear n0_ n1_ n2_ n3_; clear hb hbox hg; have hcz17_0 : w16.cell? ⟨gb101, 0, none⟩ = some (.slice A0_0 l0_0.length c0_0) := (blk_cell BK101.out 0).trans rfl; have hcz17_1 : w16.cell? ⟨gb101, 1, none⟩ = some (.slice A0_1 l0_1.length c0_1) := (blk_cell BK101.out 1).trans rfl; have hcz17_2 : w16.cell? ⟨gb101, 2, none⟩ = some (.slice A0_2 l0_2.length c0_2) := (blk_cell BK101.out 2).trans rfl; have hfz17_0 := blk_frozen BK101.out 0; have hfz17_1 := blk_frozen BK101.out 1; have hfz17_2 := blk_frozen BK101.out 2) | ((with_reducible refine gate_callee (f := 53) rfl ?_); refine goesL_ (some 5) rfl rfl Try.func53 (by kernel_rfl) rfl #[.agg #[.slice A0_0 l0_0.length c0_0, .slice A0_1 l0_1.length c0_1, .slice A0_2 l0_2.length c0_2]] rfl (by (try simp only [List.map_toArray, List.map_cons, List.map_nil]); first | done | rfl | (simp only [List.length_drop, List.length_take]; rfl)) ?_; (with_reducible refine (spec_l04Is.calls k _ _ l0_0 _ _ l0_1 _ _ l0_2 false _ ?side1 ?side2 ?side3 ?side4 ?side5 ?side6 A2.out).mono ?_); (case side1 => repeat (first | exact (Kd.C_below HR0_0.out HB.out) | (with_reducible refine Kd.C_alloc ?_ _) | (with_reducible refine Kd.C_drewN ?_ _) | (with_reducible refine Kd.C_drew ?_))); (case side2 => exact HC0_0.out); (case side3 => repeat (first | exact (Kd.C_below HR0_1.out HB.out) | (with_reducible refine Kd.C_alloc ?_ _) | (with_reducible refine Kd.C_drewN ?_ _) | (with_reducible refine Kd.C_drew ?_))); (case side4 => exact HC0_1.out); (case side5 => repeat (first | exact (Kd.C_below HR0_2.out HB.out) | (with_reducible refine Kd.C_alloc ?_ _) | (with_reducible refine Kd.C_drewN ?_ _) | (with_reducible refine Kd.C_drew ?_))); (case side6 => exact HC0_2.out); rintro e w18 ⟨rfl, hb⟩; refine ⟨_, rfl, ?_⟩; have n0_ := Aside0.mk (blk_below (g := gb101) (o := .cells #[.slice A0_0 l0_0.length c0_0, .slice A0_1 l0_1.length c0_1, .slice A0_2 l0_2.length c0_2] 28 (0, 0)) (by (with_reducible repeat (first | refine blk_drewN ?_ _ | refine blk_drew ?_ | refine blk_alloc ?_ _)); exact BK101.out) hb); have n1_ := Aside0.mk (below_step (by repeat (first | (with_reducible first | exact HB.out | apply below_alloc | apply pw_below_drewN | apply below_drew1 | refine below_set ?_ GE101.out) | exact HB.out)) hb); clear BK101; clear HB; have BK101 := n0_; have HB := n1_; clear n0_ n1_; (try clear hb); (try clear hb2); (try clear hk); (try clear hi)))
    go_ret
    exact ⟨by first | rfl | (simp [errW_none, errW_some] <;> rfl) | (simp [*, errW_none, errW_some] <;> rfl), by repeat (first | (with_reducible first | exact HB.out | apply below_alloc | apply pw_below_drewN | apply below_drew1 | refine below_set ?_ GE101.out) | exact HB.out)⟩

end Go.Proofs.Ythcccgeeccjfiaa.P

namespace Go.Proofs.Ythcccgeeccjfiaa.Pure
open Go.RowKit Go.Proofs.Ythcccgeeccjfiaa.P Go.Proofs.YthcccgeeccjfiaaW.PrintWords Go.Proofs.YthcccgeeccjfiaaW.PrintLast Go.Proofs.YthcccgeeccjfiaaW.PrintMore
set_option linter.unusedVariables false
set_option linter.unusedSimpArgs false
theorem isJobs_P {L P D : List Int} (h : isJobs L P D = true) : ∀ x ∈ P, 1 ≤ x ∧ x ≤ 60 := by
  intro x hx
  obtain ⟨i, hi, rfl⟩ := List.mem_iff_getElem.1 hx
  have hl := isJobs_len h
  have h1 := (isJobs_at h (i := i) (by omega)).1
  rwa [rd_nat hi] at h1
theorem whole_ev (L P D : List Int) (h : isJobs L P D = true) : Ev (fun k => impl_Jobs_whole.f k L P D) ((lcmN 1 P : Nat) : Int) := by
  unfold impl_Jobs_whole.f
  have hl := isJobs_len h
  exact ev_bind (multiple_ev P (by omega) (isJobs_P h)) (ev_now _)
/-- the reference's: it stops where it is greater than 240 -/
theorem l04Whole_l0 (L P D : List Int) (h : isJobs L P D = true) : ∀ d n : Nat, n + d = P.length →
    ∃ r : Nat, Ev (fun k => spec_l04Whole.l0 k ((lcmN 1 (P.take n) : Nat) : Int) (n : Int) L P D) (r : Int) ∧ (lcmN 1 P ≤ 240 → r = lcmN 1 P) ∧ (240 < lcmN 1 P → 240 < r) := by
  have hl := isJobs_len h
  have hP := isJobs_P h
  intro d
  induction d with
  | zero =>
    intro n hn
    rw [List.take_of_length_le (by omega)]
    refine ⟨lcmN 1 P, ?_, fun _ => rfl, fun h => h⟩
    refine Ev.step (fun k => by rw [spec_l04Whole.l0]) ?_
    exact ev_neg (by omega) (ev_now _)
  | succ d ih =>
    intro n hn
    have hlt : n < P.length := by omega
    have hx := hP _ (List.getElem_mem hlt)
    have hm : ∀ x ∈ P.take n, 1 ≤ x ∧ x ≤ 60 := fun x hx => hP x (List.mem_of_mem_take hx)
    have hp := lcmN_pos 1 (by omega) (P.take n) (fun x hx => (hm x hx).1)
    have hmono : lcmN 1 (P.take n) ≤ lcmN 1 P := by
      have e : P = P.take n ++ P.drop n := (List.take_append_drop n P).symm
      have : lcmN 1 P = lcmN (lcmN 1 (P.take n)) (P.drop n) := by rw [← lcmN_append, ← e]
      rw [this]
      exact lcmN_mono _ hp _ (fun x hx => (hP x (List.mem_of_mem_drop hx)).1)
    obtain ⟨r, hr, hr1, hr2⟩ := ih (n + 1) (by omega)
    rw [lcmN_take_succ _ _ _ hlt] at hr
    generalize lcmN 1 (P.take n) = a at hp hmono hr ⊢
    obtain ⟨g, hg⟩ : ∃ g : Nat, P[n] = (g : Int) := ⟨(P[n]).toNat, by omega⟩
    rw [hg, Int.toNat_natCast] at hr
    rw [hg] at hx
    by_cases ha : a ≤ 240
    · refine ⟨r, ?_, hr1, hr2⟩
      have hag : a * g ≤ 240 * 60 := Nat.mul_le_mul ha (by omega)
      refine Ev.step (fun k => by rw [spec_l04Whole.l0]) ?_
      refine ev_pos (by omega) (ev_pos (by omega) (ev_pos (by omega) ?_))
      rw [rd_nat hlt, hg]
      refine ev_bind (l01Lcm_ev a g hp (by omega)) ?_
      rw [wrap_succ (by omega)]
      exact hr
    · refine ⟨a, ?_, fun h => absurd h (by omega), fun _ => by omega⟩
      refine Ev.step (fun k => by rw [spec_l04Whole.l0]) ?_
      exact ev_pos (by omega) (ev_neg (by omega) (ev_now _))
theorem l04Whole_ev (L P D : List Int) (h : isJobs L P D = true) : ∃ r : Nat, Ev (fun k => spec_l04Whole.f k L P D) (r : Int) ∧ (lcmN 1 P ≤ 240 → r = lcmN 1 P) ∧ (240 < lcmN 1 P → 240 < r) := by
  unfold spec_l04Whole.f
  exact l04Whole_l0 L P D h P.length 0 (by omega)
/-- the code of jobs whose whole period has to be short -/
def shortCode (L P D : List Int) : Int := if isJobs L P D = true then (if lcmN 1 P ≤ 240 then 0 else 3) else 1
theorem l04Code_ev (L P D : List Int) : Ev (fun k => spec_l04Code.f k L P D) (shortCode L P D) := by
  unfold spec_l04Code.f shortCode
  refine ev_bind (l04Is_ev L P D) ?_
  cases h : isJobs L P D with
  | false => exact ev_neg (by simp) (ev_is (by simp))
  | true =>
    obtain ⟨r, hr, h1, h2⟩ := l04Whole_ev L P D h
    refine ev_pos rfl (ev_bind hr ?_)
    rw [if_pos rfl]
    by_cases hw : lcmN 1 P ≤ 240
    · have := h1 hw
      rw [if_pos hw]
      exact ev_neg (by omega) (ev_now _)
    · have := h2 (by omega)
      rw [if_neg hw]
      exact ev_pos (by omega) (ev_now _)
theorem jobsCode_short (L P D : List Int) : Ev (fun k => impl_jobsCode.f k L P D true true) (shortCode L P D) := by
  unfold impl_jobsCode.f shortCode
  refine ev_bind (AreJobs_ev L P D) ?_
  cases h : isJobs L P D with
  | false => exact ev_neg (by simp) (ev_is (by simp))
  | true =>
    refine ev_pos rfl (ev_pos rfl (ev_pos rfl (ev_bind (whole_ev L P D h) ?_)))
    rw [if_pos rfl]
    by_cases hw : lcmN 1 P ≤ 240
    · rw [if_pos hw]
      exact ev_neg (by omega) (ev_now _)
    · rw [if_neg hw]
      exact ev_pos (by omega) (ev_now _)
theorem shortCode_zero {L P D : List Int} (h : shortCode L P D = 0) : isJobs L P D = true ∧ lcmN 1 P ≤ 240 := by
  unfold shortCode at h
  by_cases h1 : isJobs L P D = true
  · rw [if_pos h1] at h
    by_cases h2 : lcmN 1 P ≤ 240
    · exact ⟨h1, h2⟩
    · rw [if_neg h2] at h; omega
  · rw [if_neg h1] at h; omega
end Go.Proofs.Ythcccgeeccjfiaa.Pure

namespace Go.Proofs.Ythcccgeeccjfiaa.Pure
open Go.RowKit Go.Proofs.Ythcccgeeccjfiaa.P Go.Proofs.YthcccgeeccjfiaaW.PrintWords Go.Proofs.YthcccgeeccjfiaaW.PrintLast Go.Proofs.YthcccgeeccjfiaaW.PrintMore
set_option linter.unusedVariables false
set_option linter.unusedSimpArgs false
def numTo (L P : List Int) (M : Nat) : Nat → Nat
  | 0 => 0
  | i + 1 => numTo L P M i + (rd L i).toNat * (M / (rd P i).toNat)
theorem red_unique {a b c e : Nat} (h1 : Nat.Coprime a b) (h2 : Nat.Coprime c e) (h : a * e = b * c) : a = c ∧ b = e := by
  have d1 : a ∣ c := h1.dvd_of_dvd_mul_left (h ▸ Nat.dvd_mul_right a e)
  have d2 : c ∣ a := h2.dvd_of_dvd_mul_right (h ▸ Nat.dvd_mul_left c b)
  have d3 : b ∣ e := h1.symm.dvd_of_dvd_mul_left (h ▸ Nat.dvd_mul_right b c)
  have d4 : e ∣ b := h2.symm.dvd_of_dvd_mul_right (h ▸ Nat.dvd_mul_left e a)
  exact ⟨Nat.dvd_antisymm d1 d2, Nat.dvd_antisymm d3 d4⟩
theorem numTo_le {L P D : List Int} (h : isJobs L P D = true) (M : Nat) : ∀ i : Nat, i ≤ L.length → numTo L P M i ≤ 20 * i * M := by
  intro i
  induction i with
  | zero => intro _; simp [numTo]
  | succ i ih =>
    intro hi
    have h1 := ih (by omega)
    have h2 := (isJobs_at h (i := i) (by omega)).2.1
    have h3 : (rd L i).toNat * (M / (rd P i).toNat) ≤ 20 * M := Nat.mul_le_mul (by omega) (Nat.div_le_self _ _)
    rw [numTo, Nat.mul_add, Nat.mul_one, Nat.add_mul]
    omega
theorem M_le {L P D : List Int} (h : isJobs L P D = true) : 0 < lcmN 1 P ∧ lcmN 1 P ≤ 167961600000000 := by
  have hl := isJobs_len h
  exact ⟨lcmN_pos 1 (by omega) P (fun x hx => (isJobs_P h x hx).1), lcmN_le8 (isJobs_P h) (by omega)⟩
/-- a state of the reference's loop: a fraction in lowest terms, of the value of the first jobs' load -/
structure LoadAt (L P : List Int) (i a b : Nat) : Prop where
  co : Nat.Coprime a b
  pos : 0 < b
  val : a * lcmN 1 P = b * numTo L P (lcmN 1 P) i
theorem LoadAt.bounds {L P D : List Int} {i a b : Nat} (h : isJobs L P D = true) (hi : i ≤ L.length) (s : LoadAt L P i a b) : b ≤ 167961600000000 ∧ a ≤ 160 * 167961600000000 := by
  have ⟨hM, hM2⟩ := M_le h
  have hl := isJobs_len h
  have hb : b ∣ lcmN 1 P := s.co.symm.dvd_of_dvd_mul_left (s.val ▸ Nat.dvd_mul_right b _)
  have hb2 := Nat.le_of_dvd hM hb
  have hn := numTo_le h (lcmN 1 P) i hi
  have h1 : a * lcmN 1 P ≤ (160 * b) * lcmN 1 P := by
    rw [s.val]
    have h2 : b * numTo L P (lcmN 1 P) i ≤ b * (160 * lcmN 1 P) := Nat.mul_le_mul_left _ (Nat.le_trans hn (Nat.mul_le_mul_right _ (by omega)))
    rw [Nat.mul_comm 160 b, Nat.mul_assoc]
    exact h2
  have h3 := Nat.le_of_mul_le_mul_right h1 hM
  omega
theorem LoadAt.next {L P D : List Int} {i a b : Nat} (h : isJobs L P D = true) (hi : i < L.length) (s : LoadAt L P i a b) {l p : Nat} (hl : rd L i = (l : Int)) (hp : rd P i = (p : Int)) :
    0 < Nat.gcd (a * p + l * b) (b * p) ∧ LoadAt L P (i + 1) ((a * p + l * b) / Nat.gcd (a * p + l * b) (b * p)) ((b * p) / Nat.gcd (a * p + l * b) (b * p)) := by
  have hat := isJobs_at h hi
  have hlen := isJobs_len h
  have hp0 : 0 < p := by omega
  have hbp : 0 < b * p := Nat.mul_pos s.pos hp0
  have hg : 0 < Nat.gcd (a * p + l * b) (b * p) := Nat.gcd_pos_of_pos_right _ hbp
  have hpM : p ∣ lcmN 1 P := by
    have := dvd_lcmN 1 P (rd P i) (by rw [rd_nat (by omega)]; exact List.getElem_mem _)
    rwa [hp, Int.toNat_natCast] at this
  have e : (a * p + l * b) * lcmN 1 P = (b * p) * numTo L P (lcmN 1 P) (i + 1) := by
    rw [numTo, hl, hp, Int.toNat_natCast, Int.toNat_natCast, Nat.add_mul, Nat.mul_add]
    have h1 : a * p * lcmN 1 P = b * p * numTo L P (lcmN 1 P) i := by
      rw [Nat.mul_right_comm, s.val, Nat.mul_right_comm]
    have h2 : l * b * lcmN 1 P = b * p * (l * (lcmN 1 P / p)) := by
      have h3 : p * (lcmN 1 P / p) = lcmN 1 P := Nat.mul_div_cancel' hpM
      rw [show b * p * (l * (lcmN 1 P / p)) = l * b * (p * (lcmN 1 P / p)) by ac_rfl, h3]
    rw [h1, h2]
  generalize hgg : Nat.gcd (a * p + l * b) (b * p) = g at hg ⊢
  have d1 : g ∣ a * p + l * b := hgg ▸ Nat.gcd_dvd_left _ _
  have d2 : g ∣ b * p := hgg ▸ Nat.gcd_dvd_right _ _
  refine ⟨hg, ?_, Nat.div_pos (Nat.le_of_dvd hbp d2) hg, ?_⟩
  · rw [← hgg]
    exact Nat.coprime_div_gcd_div_gcd (hgg.symm ▸ hg)
  · have h5 : g * ((a * p + l * b) / g * lcmN 1 P) = g * (b * p / g * numTo L P (lcmN 1 P) (i + 1)) := by
      rw [← Nat.mul_assoc, ← Nat.mul_assoc, Nat.mul_div_cancel' d1, Nat.mul_div_cancel' d2, e]
    exact Nat.eq_of_mul_eq_mul_left hg h5
def loadOf (L P : List Int) : Int × Int :=
  (((numTo L P (lcmN 1 P) L.length / Nat.gcd (numTo L P (lcmN 1 P) L.length) (lcmN 1 P) : Nat) : Int), ((lcmN 1 P / Nat.gcd (numTo L P (lcmN 1 P) L.length) (lcmN 1 P) : Nat) : Int))
theorem l01Lowest_ev (x y : Nat) (hy : 0 < y) (hx : x ≤ 9223372036854775807) (hy2 : y ≤ 9223372036854775807) : Ev (fun k => spec_l01Lowest.f k (x : Int) (y : Int)) (((x / Nat.gcd x y : Nat) : Int), ((y / Nat.gcd x y : Nat) : Int)) := by
  unfold spec_l01Lowest.f
  have hg : 0 < Nat.gcd x y := Nat.gcd_pos_of_pos_right _ hy
  refine ev_bind (l01Gcd_ev x y) (ev_neg (by omega) (ev_is ?_))
  rw [tdiv_nat, tdiv_nat, wrap_nat (Nat.le_trans (Nat.div_le_self _ _) hx), wrap_nat (Nat.le_trans (Nat.div_le_self _ _) hy2)]
theorem LoadOf_spec_l0 (L P D : List Int) (h : isJobs L P D = true) : ∀ (d i a b : Nat), i + d = L.length → LoadAt L P i a b →
    Ev (fun k => spec_LoadOf.l0 k (a : Int) (b : Int) (i : Int) L P D) ((loadOf L P).1, (loadOf L P).2, 0) := by
  have hlen := isJobs_len h
  have ⟨hM, hM2⟩ := M_le h
  intro d
  induction d with
  | zero =>
    intro i a b hi s
    obtain rfl : i = L.length := by omega
    refine Ev.step (fun k => by rw [spec_LoadOf.l0]) ?_
    refine ev_neg (by omega) (ev_is ?_)
    unfold loadOf
    have hv := s.val
    have hc := s.co
    generalize numTo L P (lcmN 1 P) L.length = num at hv ⊢
    generalize lcmN 1 P = M at hv hM ⊢
    have hg : 0 < Nat.gcd num M := Nat.gcd_pos_of_pos_right _ hM
    have d1 := Nat.gcd_dvd_left num M
    have d2 := Nat.gcd_dvd_right num M
    have := red_unique hc (Nat.coprime_div_gcd_div_gcd hg) (a := a) (b := b) (Nat.eq_of_mul_eq_mul_left hg (by
      rw [Nat.mul_left_comm, Nat.mul_div_cancel' d2, Nat.mul_left_comm, Nat.mul_div_cancel' d1]; exact hv))
    rw [← this.1, ← this.2]
  | succ d ih =>
    intro i a b hi s
    have hat := isJobs_at h (i := i) (by omega)
    obtain ⟨l, hl⟩ : ∃ l : Nat, rd L i = (l : Int) := ⟨(rd L i).toNat, by omega⟩
    obtain ⟨p, hp⟩ : ∃ p : Nat, rd P i = (p : Int) := ⟨(rd P i).toNat, by omega⟩
    have ⟨hg, hn⟩ := s.next h (by omega) hl hp
    have hb := s.bounds h (by omega)
    have hi2 := ih (i + 1) _ _ (by omega) hn
    have b1 : a * p ≤ 160 * 167961600000000 * 60 := Nat.mul_le_mul hb.2 (by omega)
    have b2 : l * b ≤ 20 * 167961600000000 := Nat.mul_le_mul (by omega) hb.1
    have b3 : b * p ≤ 167961600000000 * 60 := Nat.mul_le_mul hb.1 (by omega)
    have hbp : 0 < b * p := Nat.mul_pos s.pos (by omega)
    refine Ev.step (fun k => by rw [spec_LoadOf.l0]) ?_
    refine ev_pos (by omega) (ev_pos (by omega) (ev_pos (by omega) ?_))
    rw [hl, hp, ← Int.natCast_mul, ← Int.natCast_mul, ← Int.natCast_mul, wrap_nat (by omega), wrap_nat (by omega), wrap_nat (by omega), ← Int.natCast_add, wrap_nat (by omega), wrap_succ (by omega)]
    exact ev_bind (l01Lowest_ev _ _ hbp (by omega) (by omega)) hi2
theorem load_l0 (L P D : List Int) (h : isJobs L P D = true) : ∀ (d i : Nat), i + d = L.length →
    Ev (fun k => impl_Jobs_load.l0 k ((lcmN 1 P : Nat) : Int) ((numTo L P (lcmN 1 P) i : Nat) : Int) P (P.length : Int) (i : Int) L P D) (loadOf L P) := by
  have hlen := isJobs_len h
  have ⟨hM, hM2⟩ := M_le h
  intro d
  induction d with
  | zero =>
    intro i hi
    obtain rfl : i = L.length := by omega
    have hn := numTo_le h (lcmN 1 P) L.length (Nat.le_refl _)
    have hn2 : 20 * L.length * lcmN 1 P ≤ 160 * 167961600000000 := Nat.mul_le_mul (by omega) hM2
    refine Ev.step (fun k => by rw [impl_Jobs_load.l0]) ?_
    refine ev_neg (by omega) (ev_bind (divisor_ev _ _) ?_)
    have hg : 0 < Nat.gcd (numTo L P (lcmN 1 P) L.length) (lcmN 1 P) := Nat.gcd_pos_of_pos_right _ hM
    refine ev_neg (by omega) (ev_is ?_)
    rw [tdiv_nat, tdiv_nat, wrap_nat (Nat.le_trans (Nat.div_le_self _ _) (by omega)), wrap_nat (Nat.le_trans (Nat.div_le_self _ _) (by omega))]
    rfl
  | succ d ih =>
    intro i hi
    have hat := isJobs_at h (i := i) (by omega)
    have hn := numTo_le h (lcmN 1 P) i (by omega)
    have hn2 : 20 * i * lcmN 1 P ≤ 160 * 167961600000000 := Nat.mul_le_mul (by omega) hM2
    have hi2 := ih (i + 1) (by omega)
    rw [numTo] at hi2
    obtain ⟨l, hl⟩ : ∃ l : Nat, rd L i = (l : Int) := ⟨(rd L i).toNat, by omega⟩
    obtain ⟨p, hp⟩ : ∃ p : Nat, rd P i = (p : Int) := ⟨(rd P i).toNat, by omega⟩
    rw [hl, hp, Int.toNat_natCast, Int.toNat_natCast] at hi2
    have b0 := Nat.div_le_self (lcmN 1 P) p
    have b1 : l * (lcmN 1 P / p) ≤ 20 * 167961600000000 := Nat.mul_le_mul (by omega) (Nat.le_trans b0 hM2)
    refine Ev.step (fun k => by rw [impl_Jobs_load.l0]) ?_
    refine ev_pos (by omega) (ev_pos (by omega) (ev_pos (by omega) (ev_pos (by omega) (ev_neg (by omega) ?_))))
    rw [hl, hp, tdiv_nat, wrap_nat (Nat.le_trans b0 (by omega)), ← Int.natCast_mul, wrap_nat (Nat.le_trans b1 (by omega)), ← Int.natCast_add, wrap_nat (Nat.le_trans (Nat.add_le_add (Nat.le_trans hn hn2) b1) (by omega)), wrap_succ (by omega)]
    exact hi2
theorem load_ev (L P D : List Int) (h : isJobs L P D = true) : Ev (fun k => impl_Jobs_load.f k L P D) (loadOf L P) := by
  unfold impl_Jobs_load.f
  refine ev_bind (whole_ev L P D h) ?_
  exact load_l0 L P D h L.length 0 (by omega)
theorem LoadAt.start (L P : List Int) : LoadAt L P 0 0 1 := ⟨by decide, by omega, by simp [numTo]⟩
end Go.Proofs.Ythcccgeeccjfiaa.Pure

namespace Go.Proofs.Ythcccgeeccjfiaa.Pure
open Go.RowKit Go.Proofs.Ythcccgeeccjfiaa.P Go.Proofs.YthcccgeeccjfiaaW.PrintWords Go.Proofs.YthcccgeeccjfiaaW.PrintLast Go.Proofs.YthcccgeeccjfiaaW.PrintMore
set_option linter.unusedVariables false
set_option linter.unusedSimpArgs false
def loadR (L P D : List Int) : Int × Int × Int := if isJobs L P D = true then ((loadOf L P).1, (loadOf L P).2, 0) else (0, 0, 1)
theorem LoadOf_spec (L P D : List Int) : Ev (fun k => spec_LoadOf.f k L P D) (loadR L P D) := by
  unfold spec_LoadOf.f loadR
  refine ev_bind (l04Is_ev L P D) ?_
  cases h : isJobs L P D with
  | false => exact ev_neg (by simp) (ev_is (by simp))
  | true =>
    rw [if_pos rfl]
    exact ev_pos rfl (LoadOf_spec_l0 L P D h L.length 0 0 1 (by omega) (LoadAt.start L P))
theorem LoadOf_impl (L P D : List Int) : Ev (fun k => impl_LoadOf.f k L P D) (loadR L P D) := by
  unfold impl_LoadOf.f impl_jobsCode.f loadR
  refine ev_bind (a := if isJobs L P D = true then 0 else 1) (ev_bind (AreJobs_ev L P D) ?_) ?_
  · cases h : isJobs L P D with
    | false => exact ev_neg (by simp) (ev_is (by simp))
    | true => exact ev_pos rfl (ev_pos rfl (ev_neg (by simp) (ev_is (by simp))))
  · cases h : isJobs L P D with
    | false => exact ev_neg (by simp) (ev_is (by simp))
    | true =>
      rw [if_pos rfl, if_pos rfl]
      exact ev_pos rfl (ev_bind (load_ev L P D h) (ev_now _))
theorem FnExactLoadOf : laws_FnExactLoadOf.Pure := by
  intro L P D hL hP hD
  refine ev_rounds (g := fun k => laws_FnExactLoadOf.f k L P D) ?_
  unfold laws_FnExactLoadOf.f
  obtain ⟨r, hr, h⟩ := szJobs_f L P D hL.1 hP.1 hD.1
  refine ev_fix hr ?_
  rcases h with h | ⟨h0, h1, h2, h3⟩
  · exact ev_pos h (ev_now _)
  · refine ev_neg (by omega) (ev_bind (toJobs_ev L P D h1 h2 h3) (ev_bind (LoadOf_spec L P D) (ev_bind (toJobs_ev L P D h1 h2 h3) (ev_bind (LoadOf_impl L P D) (ev_pos rfl (ev_pos rfl ?_))))))
    rw [bne_self_eq_false]
    refine Ev.step (fun k => by rw [laws_FnExactLoadOf.j0]) ?_
    exact ev_neg (by simp) (ev_bind (toJobs_ev L P D h1 h2 h3) (ev_bind (eqJobs_ev L P D h1 h2 h3) (ev_pos rfl (ev_now _))))
end Go.Proofs.Ythcccgeeccjfiaa.Pure

namespace Go.Proofs.Ythcccgeeccjfiaa.fnExactLoadOf
open Go.ChangeShapes Go.WideShapes Go.ChangeAt Go.RowKit Go.Deep Go.Proofs.Ythcccgeeccjfiaa.P
open Go.ChangeMaps (open_string shut_string)
set_option linter.unusedVariables false
theorem own : ownKnob Try.prog.godebug = none := by kernel_rfl
theorem laidOut : laidOutB Try.prog = true := by kernel_rfl
set_option maxRecDepth 100000 in
theorem lifted (os : Os) (started : os.Started) (H : Type) (enc : TypeId × Value → H) :
    ReturnsInHanded {} Try.checked os 3 .any (Rows.fnExactLoadOfSpec.pre6 enc Try.prog Try.f3 Rows.fnExactLoadOfRow.domain false) (Rows.fnExactLoadOfSpec.post enc Try.prog Try.f3 false true false false) := by
  refine returnsInHanded_of_change_sized (C := Try.checked) own started (by kernel_rfl) Try.func3
    (ChangeSpec.witness6 (enc := enc) (C := Try.checked) false ⟨#[], #[.agg #[.slice none 0 0, .slice none 0 0, .slice none 0 0]], []⟩ 8 (by kernel_rfl) (by kernel_rfl) (by kernel_rfl) (by kernel_rfl)) ?_
  intro W base args ds gs before hval0 hW hcnd hsz0 _
  have hsz : (DataW.weightsEach Try.prog (Try.f3.params.toList ++ Rows.fnExactLoadOfSpec.plain.varTypes Try.prog) (ds ++ gs)).all (· ≤ reachBytes) = true := hsz0
  have hval : ∀ (j : Nat) t v, Try.f3.params[j]? = some t → args[j]? = some v → Value.okWide Try.prog W .any base t v := hval0
  have hW' := hW
  obtain ⟨p, q, hA0, hV, rfl, hfz, hnd⟩ := hW
  have hA : DataW.TrodAll enc Try.prog W 0 (fun _ => true) true Try.f3.params.toList args.toList ds p := hA0
  rw [Try.params3] at hA hval hsz
  obtain ⟨v0, vs0, d0, ds0, p0, q0, hargs, rfl, rfl, h0, r0⟩ := trodAll_cons hA
  obtain ⟨rfl, rfl, rfl⟩ := trodAll_nil r0
  obtain rfl : args = #[v0] := by cases args; simp_all
  obtain ⟨rfl, rfl⟩ := trodVars_none hV
  have k0 := h0
  have lt0 : ∀ x ∈ p0, x.block < W.heap.size := by obtain ⟨m, hm⟩ := k0; exact DataW.trod_lt m _ _ _ hm
  obtain ⟨v0_0, v0_1, v0_2, y0_0, y0_1, y0_2, n0, rfl, t0_0, t0_1, t0_2⟩ := agg3 Try.underlying24 (by kernel_rfl) (by kernel_rfl) (hval 0 24 v0 rfl rfl) h0
  obtain ⟨l0_0, e0_0, w0_0⟩ := open_cell (opens_slice (opens_int Try.underlying2) Try.underlying22 (by kernel_rfl) rfl) t0_0
  obtain ⟨A0_0, c0_0, rfl, hc0_0, hr0_0⟩ := row_cell e0_0
  obtain ⟨l0_1, e0_1, w0_1⟩ := open_cell (opens_slice (opens_int Try.underlying2) Try.underlying22 (by kernel_rfl) rfl) t0_1
  obtain ⟨A0_1, c0_1, rfl, hc0_1, hr0_1⟩ := row_cell e0_1
  obtain ⟨l0_2, e0_2, w0_2⟩ := open_cell (opens_slice (opens_int Try.underlying2) Try.underlying22 (by kernel_rfl) rfl) t0_2
  obtain ⟨A0_2, c0_2, rfl, hc0_2, hr0_2⟩ := row_cell e0_2
  clear hA0 hval0 hsz0 hsz
  refine (P.laws_FnExactLoadOf.walk Pure.FnExactLoadOf A0_0 c0_0 l0_0 A0_1 c0_1 l0_1 A0_2 c0_2 l0_2 W hr0_0 hc0_0 hr0_1 hc0_1 hr0_2 hc0_2 w0_0 w0_1 w0_2).mono fun e W' ⟨he, bel⟩ => ?_
  subst he
  exact ⟨_, rfl, _, _, _, [], _, [], hW', trodAll_mk1 (shut_bool Try.underlying4 _), (trodAll_cons_mk (Below.trod laidOut (by kernel_rfl) (of_decide_eq_true (by kernel_rfl)) k0 bel lt0) trodAll_mk0), rfl, bel.frame _, fun h => by cases h⟩
theorem over : Rows.fnExactLoadOfRow.holds Try.pinned (OpenSpec.ofChange Rows.fnExactLoadOfSpec) :=
  OpenClaim.holds_of_wide 3 Try.f3 rfl rfl rfl rfl rfl rfl rfl ⟨rfl, rfl, rfl, rfl, rfl⟩ rfl rfl rfl rfl rfl (by kernel_rfl) Try.func3 (by kernel_rfl)
    (of_decide_eq_true (by kernel_rfl)) (by unfold Func.isWrapper; first | (rw [if_pos (by decide +kernel)]; kernel_rfl) | (rw [if_neg (by decide +kernel)]; exact ⟨rfl, rfl⟩))
    (fun os started H enc _ => lifted os started H enc)
theorem proved : Rows.FnExactLoadOfSaid := over
end Go.Proofs.Ythcccgeeccjfiaa.fnExactLoadOf
namespace Go.Proofs.Ythcccgeeccjfiaa
/-- The row, under a short name, for the claim. -/
theorem fnExactLoadOf_holds : Rows.FnExactLoadOfSaid := fnExactLoadOf.proved
end Go.Proofs.Ythcccgeeccjfiaa
