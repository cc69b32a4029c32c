/- The program's LeastDifference returns what the reference's returns, for all shares; no condition beside. -/
import Derived.Test.YthcccgeeccjfiaaCFnExactLeastDifference1
import Derived.Test.YthcccgeeccjfiaaRows
namespace Go.Proofs.Ythcccgeeccjfiaa.P
open Go.RowKit Go.Proofs.YthcccgeeccjfiaaW.PrintWords Go.Proofs.YthcccgeeccjfiaaW.PrintLast Go.Proofs.YthcccgeeccjfiaaW.PrintMore
attribute [local go_sem] max2_int min2_int max_two min_two max_three min_three max_four min_four   -- for this text's walks alone
set_option linter.unusedVariables false
set_option linter.unusedSimpArgs false

/-! ### laws_FnExactLeastDifference: function 6 -/
mutual
def laws_FnExactLeastDifference.j0 : Nat → List Int → List Int → Int → Int → List Int → List Int → Int → Int → Bool → Option (Bool)
  | 0, _, _, _, _, _, _, _, _, _ => none
  | k + 1, x0, x3, x4, x5, x6, x7, x8, x9, x47 => if x47 = true then (some false) else ((laws_toInt64S.f k x0).bind fun t118 => ((laws_eqInt64S.f k x6 t118).bind fun t121 => (if t121 = true then ((laws_markInt64S.f k x6 1).bind fun bt122 => (if bt122.1 < 0 then (laws_FnExactLeastDifference.j1 k x0 x3 x4 x5 x7 true) else ((laws_eqInt64S.f k x7 x3).bind fun t124 => (if t124 = true then (if x8 = x4 then (laws_FnExactLeastDifference.j1 k x0 x3 x4 x5 x7 (x9 != x5)) else (laws_FnExactLeastDifference.j1 k x0 x3 x4 x5 x7 true)) else (laws_FnExactLeastDifference.j1 k x0 x3 x4 x5 x7 true))))) else (some false))))
def laws_FnExactLeastDifference.j1 : Nat → List Int → List Int → Int → Int → List Int → Bool → Option (Bool)
  | 0, _, _, _, _, _, _ => none
  | k + 1, x0, x3, x4, x5, x7, x73 => if x73 = true then (some false) else ((laws_markInt64S.f k x7 1).bind fun bt125 => ((laws_heldInt64S.f k bt125.2 1).bind fun t127 => (if t127 < 0 then (some false) else (if t127 = bt125.1 then ((laws_toInt64S.f k x0).bind fun t128 => ((impl_LeastDifference.f k t128).bind fun bt131 => ((laws_eqInt64S.f k bt131.1 x3).bind fun t136 => (if t136 = true then (if bt131.2.1 = x4 then (laws_FnExactLeastDifference.j2 k bt125.2 bt125.1 (bt131.2.2 != x5)) else (laws_FnExactLeastDifference.j2 k bt125.2 bt125.1 true)) else (laws_FnExactLeastDifference.j2 k bt125.2 bt125.1 true))))) else (some false)))))
def laws_FnExactLeastDifference.j2 : Nat → List Int → Int → Bool → Option (Bool)
  | 0, _, _, _ => none
  | k + 1, x7, x11, x105 => if x105 = true then (some false) else ((laws_heldInt64S.f k x7 1).bind fun t137 => (if t137 < 0 then (some false) else (if t137 = x11 then (some true) else (some false))))
end
def laws_FnExactLeastDifference.f (k : Nat) (l0 : List Int) : Option (Bool) := if (l0.length : Int) > 1048576 then (some true) else ((laws_toInt64S.f k l0).bind fun t101 => ((spec_LeastDifference.f k t101).bind fun bt104 => ((laws_toInt64S.f k l0).bind fun t109 => ((impl_LeastDifference.f k t109).bind fun bt112 => ((laws_eqInt64S.f k bt112.1 bt104.1).bind fun t117 => (if t117 = true then (if bt112.2.1 = bt104.2.1 then (laws_FnExactLeastDifference.j0 k l0 bt104.1 bt104.2.1 bt104.2.2 t109 bt112.1 bt112.2.1 bt112.2.2 (bt112.2.2 != bt104.2.2)) else (laws_FnExactLeastDifference.j0 k l0 bt104.1 bt104.2.1 bt104.2.2 t109 bt112.1 bt112.2.1 bt112.2.2 true)) else (laws_FnExactLeastDifference.j0 k l0 bt104.1 bt104.2.1 bt104.2.2 t109 bt112.1 bt112.2.1 bt112.2.2 true)))))))
theorem laws_FnExactLeastDifference.mono_l : ∀ k, (∀ y0 y1 y2 y3 y4 y5 y6 y7 y8, LeO (laws_FnExactLeastDifference.j0 k y0 y1 y2 y3 y4 y5 y6 y7 y8) (laws_FnExactLeastDifference.j0 (k + 1) y0 y1 y2 y3 y4 y5 y6 y7 y8)) ∧ (∀ y0 y1 y2 y3 y4 y5, LeO (laws_FnExactLeastDifference.j1 k y0 y1 y2 y3 y4 y5) (laws_FnExactLeastDifference.j1 (k + 1) y0 y1 y2 y3 y4 y5)) ∧ (∀ y0 y1 y2, LeO (laws_FnExactLeastDifference.j2 k y0 y1 y2) (laws_FnExactLeastDifference.j2 (k + 1) y0 y1 y2))
  | 0 => ⟨fun _ _ _ _ _ _ _ _ _ r h => by simp [laws_FnExactLeastDifference.j0] at h, fun _ _ _ _ _ _ r h => by simp [laws_FnExactLeastDifference.j1] at h, fun _ _ _ r h => by simp [laws_FnExactLeastDifference.j2] at h⟩
  | k + 1 => by
    obtain ⟨ih0, ih1, ih2⟩ := laws_FnExactLeastDifference.mono_l k
    refine ⟨?_, ?_, ?_⟩
    · intro y0 y1 y2 y3 y4 y5 y6 y7 y8
      unfold laws_FnExactLeastDifference.j0
      repeat' first
      | (with_reducible exact ih0 _ _ _ _ _ _ _ _ _)
      | (with_reducible exact ih1 _ _ _ _ _ _)
      | (with_reducible exact ih2 _ _ _)
      | (with_reducible exact impl_LeastDifference.mono _ _)
      | (with_reducible exact laws_eqInt64S.mono _ _ _)
      | (with_reducible exact laws_heldInt64S.mono _ _ _)
      | (with_reducible exact laws_markInt64S.mono _ _ _)
      | (with_reducible exact laws_toInt64S.mono _ _)
      | (with_reducible exact spec_LeastDifference.mono _ _)
      | (with_reducible exact LeO.refl _)
      | (with_reducible exact LeO.none _)
      | (with_reducible refine LeO.ite ?_ ?_)
      | (with_reducible refine LeO.bind ?_ (fun _ => ?_))
      | exact ih0 _ _ _ _ _ _ _ _ _
      | exact ih1 _ _ _ _ _ _
      | exact ih2 _ _ _
      | exact impl_LeastDifference.mono _ _
      | exact laws_eqInt64S.mono _ _ _
      | exact laws_heldInt64S.mono _ _ _
      | exact laws_markInt64S.mono _ _ _
      | exact laws_toInt64S.mono _ _
      | exact spec_LeastDifference.mono _ _
      | exact LeO.none _
      | refine LeO.ite ?_ ?_
      | refine LeO.bind ?_ (fun _ => ?_)
    · intro y0 y1 y2 y3 y4 y5
      unfold laws_FnExactLeastDifference.j1
      repeat' first
      | (with_reducible exact ih0 _ _ _ _ _ _ _ _ _)
      | (with_reducible exact ih1 _ _ _ _ _ _)
      | (with_reducible exact ih2 _ _ _)
      | (with_reducible exact impl_LeastDifference.mono _ _)
      | (with_reducible exact laws_eqInt64S.mono _ _ _)
      | (with_reducible exact laws_heldInt64S.mono _ _ _)
      | (with_reducible exact laws_markInt64S.mono _ _ _)
      | (with_reducible exact laws_toInt64S.mono _ _)
      | (with_reducible exact spec_LeastDifference.mono _ _)
      | (with_reducible exact LeO.refl _)
      | (with_reducible exact LeO.none _)
      | (with_reducible refine LeO.ite ?_ ?_)
      | (with_reducible refine LeO.bind ?_ (fun _ => ?_))
      | exact ih0 _ _ _ _ _ _ _ _ _
      | exact ih1 _ _ _ _ _ _
      | exact ih2 _ _ _
      | exact impl_LeastDifference.mono _ _
      | exact laws_eqInt64S.mono _ _ _
      | exact laws_heldInt64S.mono _ _ _
      | exact laws_markInt64S.mono _ _ _
      | exact laws_toInt64S.mono _ _
      | exact spec_LeastDifference.mono _ _
      | exact LeO.none _
      | refine LeO.ite ?_ ?_
      | refine LeO.bind ?_ (fun _ => ?_)
    · intro y0 y1 y2
      unfold laws_FnExactLeastDifference.j2
      repeat' first
      | (with_reducible exact ih0 _ _ _ _ _ _ _ _ _)
      | (with_reducible exact ih1 _ _ _ _ _ _)
      | (with_reducible exact ih2 _ _ _)
      | (with_reducible exact impl_LeastDifference.mono _ _)
      | (with_reducible exact laws_eqInt64S.mono _ _ _)
      | (with_reducible exact laws_heldInt64S.mono _ _ _)
      | (with_reducible exact laws_markInt64S.mono _ _ _)
      | (with_reducible exact laws_toInt64S.mono _ _)
      | (with_reducible exact spec_LeastDifference.mono _ _)
      | (with_reducible exact LeO.refl _)
      | (with_reducible exact LeO.none _)
      | (with_reducible refine LeO.ite ?_ ?_)
      | (with_reducible refine LeO.bind ?_ (fun _ => ?_))
      | exact ih0 _ _ _ _ _ _ _ _ _
      | exact ih1 _ _ _ _ _ _
      | exact ih2 _ _ _
      | exact impl_LeastDifference.mono _ _
      | exact laws_eqInt64S.mono _ _ _
      | exact laws_heldInt64S.mono _ _ _
      | exact laws_markInt64S.mono _ _ _
      | exact laws_toInt64S.mono _ _
      | exact spec_LeastDifference.mono _ _
      | exact LeO.none _
      | refine LeO.ite ?_ ?_
      | refine LeO.bind ?_ (fun _ => ?_)
theorem laws_FnExactLeastDifference.mono : ∀ a0 k, LeO (laws_FnExactLeastDifference.f k a0) (laws_FnExactLeastDifference.f (k + 1) a0) := by
  intro a0 k
  obtain ⟨ih0, ih1, ih2⟩ := laws_FnExactLeastDifference.mono_l k
  unfold laws_FnExactLeastDifference.f
  repeat' first
      | (with_reducible exact ih0 _ _ _ _ _ _ _ _ _)
      | (with_reducible exact ih1 _ _ _ _ _ _)
      | (with_reducible exact ih2 _ _ _)
      | (with_reducible exact impl_LeastDifference.mono _ _)
      | (with_reducible exact laws_eqInt64S.mono _ _ _)
      | (with_reducible exact laws_heldInt64S.mono _ _ _)
      | (with_reducible exact laws_markInt64S.mono _ _ _)
      | (with_reducible exact laws_toInt64S.mono _ _)
      | (with_reducible exact spec_LeastDifference.mono _ _)
      | (with_reducible exact LeO.refl _)
      | (with_reducible exact LeO.none _)
      | (with_reducible refine LeO.ite ?_ ?_)
      | (with_reducible refine LeO.bind ?_ (fun _ => ?_))
      | exact ih0 _ _ _ _ _ _ _ _ _
      | exact ih1 _ _ _ _ _ _
      | exact ih2 _ _ _
      | exact impl_LeastDifference.mono _ _
      | exact laws_eqInt64S.mono _ _ _
      | exact laws_heldInt64S.mono _ _ _
      | exact laws_markInt64S.mono _ _ _
      | exact laws_toInt64S.mono _ _
      | exact spec_LeastDifference.mono _ _
      | exact LeO.none _
      | refine LeO.ite ?_ ?_
      | refine LeO.bind ?_ (fun _ => ?_)
set_option maxHeartbeats 8000000 in
set_option maxRecDepth 100000 in
theorem laws_FnExactLeastDifference.calls (k : Nat) (A0 : Option Addr) (c0 : Nat) (l0 : List Int) (r : Bool) (w : World) (hr0 : Kd.C (Kd.int .i64) w A0 l0.length l0) (hc0 : l0.length ≤ c0) (h : laws_FnExactLeastDifference.f k l0 = some r) :
    Calls Try.prog 6 #[.slice A0 l0.length c0] w fun e w' => e = .returned (.bool r) ∧ Below w.heap.size w w' := by
  have HR0 := Aside0.mk hr0
  have HC0 := Aside0.mk hc0
  clear hr0 hc0
  have HB := Aside0.mk (Below.refl w.heap.size w)
  have H : (if (l0.length : Int) > 1048576 then (some true) else ((laws_toInt64S.f k l0).bind fun t101 => ((spec_LeastDifference.f k t101).bind fun bt104 => ((laws_toInt64S.f k l0).bind fun t109 => ((impl_LeastDifference.f k t109).bind fun bt112 => ((laws_eqInt64S.f k bt112.1 bt104.1).bind fun t117 => (if t117 = true then (if bt112.2.1 = bt104.2.1 then (laws_FnExactLeastDifference.j0 k l0 bt104.1 bt104.2.1 bt104.2.2 t109 bt112.1 bt112.2.1 bt112.2.2 (bt112.2.2 != bt104.2.2)) else (laws_FnExactLeastDifference.j0 k l0 bt104.1 bt104.2.1 bt104.2.2 t109 bt112.1 bt112.2.1 bt112.2.2 true)) else (laws_FnExactLeastDifference.j0 k l0 bt104.1 bt104.2.1 bt104.2.2 t109 bt112.1 bt112.2.1 bt112.2.2 true)))))))) = some r := h
  clear h
  by_cases c2 : (l0.length : Int) > 1048576
  · rw [if_pos c2] at H
    have c2b0 : decide (1048576 < (l0.length : Int)) = true := decide_eq_true c2
    have c2b1 : decide (1048576 < l0.length) = true := decide_eq_true (by omega)
    clear c2
    obtain rfl := Option.some.inj H
    go_enter Try.func6, Try.ntmps6
    go_wp2
    go_ret
    exact ⟨by first | rfl | (simp [errW_none, errW_some] <;> rfl) | (simp [*, errW_none, errW_some] <;> rfl), by repeat (first | (with_reducible first | exact HB.out | apply below_alloc | apply pw_below_drewN | apply below_drew1) | exact HB.out)⟩
  · rw [if_neg c2] at H
    have c2b0 : decide (1048576 < (l0.length : Int)) = false := decide_eq_false c2
    have c2b1 : decide (1048576 < l0.length) = false := decide_eq_false (by omega)
    clear c2
    replace H := Option.bind_eq_some_iff.mp H
    obtain ⟨t101, A30, H⟩ := H
    replace H : ((spec_LeastDifference.f k t101).bind fun bt104 => ((laws_toInt64S.f k l0).bind fun t109 => ((impl_LeastDifference.f k t109).bind fun bt112 => ((laws_eqInt64S.f k bt112.1 bt104.1).bind fun t117 => (if t117 = true then (if bt112.2.1 = bt104.2.1 then (laws_FnExactLeastDifference.j0 k l0 bt104.1 bt104.2.1 bt104.2.2 t109 bt112.1 bt112.2.1 bt112.2.2 (bt112.2.2 != bt104.2.2)) else (laws_FnExactLeastDifference.j0 k l0 bt104.1 bt104.2.1 bt104.2.2 t109 bt112.1 bt112.2.1 bt112.2.2 true)) else (laws_FnExactLeastDifference.j0 k l0 bt104.1 bt104.2.1 bt104.2.2 t109 bt112.1 bt112.2.1 bt112.2.2 true)))))) = some r := H
    have A3 := Aside0.mk A30
    clear A30
    replace H := Option.bind_eq_some_iff.mp H
    obtain ⟨⟨t104, t105, t106⟩, A40, H⟩ := H
    replace H : ((laws_toInt64S.f k l0).bind fun t109 => ((impl_LeastDifference.f k t109).bind fun bt112 => ((laws_eqInt64S.f k bt112.1 t104).bind fun t117 => (if t117 = true then (if bt112.2.1 = t105 then (laws_FnExactLeastDifference.j0 k l0 t104 t105 t106 t109 bt112.1 bt112.2.1 bt112.2.2 (bt112.2.2 != t106)) else (laws_FnExactLeastDifference.j0 k l0 t104 t105 t106 t109 bt112.1 bt112.2.1 bt112.2.2 true)) else (laws_FnExactLeastDifference.j0 k l0 t104 t105 t106 t109 bt112.1 bt112.2.1 bt112.2.2 true))))) = some r := H
    have A4 := Aside0.mk A40
    clear A40
    replace H := Option.bind_eq_some_iff.mp H
    obtain ⟨t109, A50, H⟩ := H
    replace H : ((impl_LeastDifference.f k t109).bind fun bt112 => ((laws_eqInt64S.f k bt112.1 t104).bind fun t117 => (if t117 = true then (if bt112.2.1 = t105 then (laws_FnExactLeastDifference.j0 k l0 t104 t105 t106 t109 bt112.1 bt112.2.1 bt112.2.2 (bt112.2.2 != t106)) else (laws_FnExactLeastDifference.j0 k l0 t104 t105 t106 t109 bt112.1 bt112.2.1 bt112.2.2 true)) else (laws_FnExactLeastDifference.j0 k l0 t104 t105 t106 t109 bt112.1 bt112.2.1 bt112.2.2 true)))) = some r := H
    have A5 := Aside0.mk A50
    clear A50
    replace H := Option.bind_eq_some_iff.mp H
    obtain ⟨⟨t112, t113, t114⟩, A60, H⟩ := H
    replace H : ((laws_eqInt64S.f k t112 t104).bind fun t117 => (if t117 = true then (if t113 = t105 then (laws_FnExactLeastDifference.j0 k l0 t104 t105 t106 t109 t112 t113 t114 (t114 != t106)) else (laws_FnExactLeastDifference.j0 k l0 t104 t105 t106 t109 t112 t113 t114 true)) else (laws_FnExactLeastDifference.j0 k l0 t104 t105 t106 t109 t112 t113 t114 true))) = some r := H
    have A6 := Aside0.mk A60
    clear A60
    have HC7 := Aside0.mk H
    clear H
    go_enter Try.func6, Try.ntmps6
    go_upto_region 6 with (first | ((with_reducible refine gate_callee (f := 23) rfl ?_); refine goesL_ (some 21) rfl rfl Try.func23 (by kernel_rfl) rfl #[.slice A0 l0.length c0] rfl (by (try simp only [List.map_toArray, List.map_cons, List.map_nil]); first | done | rfl | (simp only [List.length_drop, List.length_take]; rfl)) ?_; (with_reducible refine (laws_toInt64S.calls k _ _ l0 t101 _ ?side1 ?side2 A3.out).mono ?_); (case side1 => repeat (first | exact HR0.out | (with_reducible refine Kd.C_alloc ?_ _) | (with_reducible refine Kd.C_drewN ?_ _) | (with_reducible refine Kd.C_drew ?_))); (case side2 => exact HC0.out); rintro e w8 ⟨v102, rfl, ho0, hb⟩; refine ⟨_, rfl, ?_⟩; have n0_ := Aside0.mk (Kd.R_lower ho0 (below_size (by repeat (first | (with_reducible first | exact HB.out | apply below_alloc | apply pw_below_drewN | apply below_drew1) | exact HB.out)))); have n1_ := Aside0.mk (below_step (by repeat (first | (with_reducible first | exact HB.out | apply below_alloc | apply pw_below_drewN | apply below_drew1) | exact HB.out)) hb); clear HB; have HO103 := n0_; have HB := n1_; clear n0_ n1_; (try clear hb); (try clear hb2); (try clear hk); (try clear hi); (try clear ho0); obtain ⟨Ao9, co9, eo9⟩ := Kd.R_slice HO103.out; subst eo9) | ((with_reducible refine gate_callee (f := 28) rfl ?_); refine goesL_ (some 22) rfl rfl Try.func28 (by kernel_rfl) rfl #[.slice Ao9 t101.length co9] rfl (by (try simp only [List.map_toArray, List.map_cons, List.map_nil]); first | done | rfl | (simp only [List.length_drop, List.length_take]; rfl)) ?_; (with_reducible refine (spec_LeastDifference.calls k _ _ t101 t104 t105 t106 _ ?side1 ?side2 A4.out).mono ?_); (case side1 => repeat (first | exact (Kd.R_reads' HO103.out).2.2 | (with_reducible refine Kd.C_alloc ?_ _) | (with_reducible refine Kd.C_drewN ?_ _) | (with_reducible refine Kd.C_drew ?_))); (case side2 => exact (Kd.R_reads' HO103.out).2.1); rintro e w10 ⟨v107, rfl, ho0, hb⟩; refine ⟨_, rfl, ?_⟩; have n0_ := Aside0.mk (Kd.R_elder' (by (with_reducible repeat (first | apply Kd.R_alloc | apply Kd.R_drewN | apply Kd.R_drew)); exact HO103.out) (Kd.R_base ho0) hb); have n1_ := Aside0.mk (Kd.R_lower (Kd.R_new' ho0 (Kd.R_lt (by (with_reducible repeat (first | apply Kd.R_alloc | apply Kd.R_drewN | apply Kd.R_drew)); exact HO103.out))) (below_size (by repeat (first | (with_reducible first | exact HB.out | apply below_alloc | apply pw_below_drewN | apply below_drew1) | exact HB.out)))); have n2_ := Aside0.mk (below_step (by repeat (first | (with_reducible first | exact HB.out | apply below_alloc | apply pw_below_drewN | apply below_drew1) | exact HB.out)) hb); clear HO103; clear HB; have HO103 := n0_; have HO108 := n1_; have HB := n2_; clear n0_ n1_ n2_; (try clear hb); (try clear hb2); (try clear hk); (try clear hi); (try clear ho0)) | ((with_reducible refine gate_callee (f := 23) rfl ?_); refine goesL_ (some 27) rfl rfl Try.func23 (by kernel_rfl) rfl #[.slice A0 l0.length c0] rfl (by (try simp only [List.map_toArray, List.map_cons, List.map_nil]); first | done | rfl | (simp only [List.length_drop, List.length_take]; rfl)) ?_; (with_reducible refine (laws_toInt64S.calls k _ _ l0 t109 _ ?side1 ?side2 A5.out).mono ?_); (case side1 => repeat (first | exact (Kd.C_below HR0.out HB.out) | (with_reducible refine Kd.C_alloc ?_ _) | (with_reducible refine Kd.C_drewN ?_ _) | (with_reducible refine Kd.C_drew ?_))); (case side2 => exact HC0.out); rintro e w11 ⟨v110, rfl, ho0, hb⟩; refine ⟨_, rfl, ?_⟩; have n0_ := Aside0.mk (Kd.R_elder' (by (with_reducible repeat (first | apply Kd.R_alloc | apply Kd.R_drewN | apply Kd.R_drew)); exact HO103.out) (Kd.R_base ho0) hb); have n1_ := Aside0.mk (Kd.R_elder' (by (with_reducible repeat (first | apply Kd.R_alloc | apply Kd.R_drewN | apply Kd.R_drew)); exact HO108.out) (Kd.R_base ho0) hb); have n2_ := Aside0.mk (Kd.R_lower (Kd.R_new' (Kd.R_new' ho0 (Kd.R_lt (by (with_reducible repeat (first | apply Kd.R_alloc | apply Kd.R_drewN | apply Kd.R_drew)); exact HO103.out))) (Kd.R_lt (by (with_reducible repeat (first | apply Kd.R_alloc | apply Kd.R_drewN | apply Kd.R_drew)); exact HO108.out))) (below_size (by repeat (first | (with_reducible first | exact HB.out | apply below_alloc | apply pw_below_drewN | apply below_drew1) | exact HB.out)))); have n3_ := Aside0.mk (below_step (by repeat (first | (with_reducible first | exact HB.out | apply below_alloc | apply pw_below_drewN | apply below_drew1) | exact HB.out)) hb); clear HO103; clear HO108; clear HB; have HO103 := n0_; have HO108 := n1_; have HO111 := n2_; have HB := n3_; clear n0_ n1_ n2_ n3_; (try clear hb); (try clear hb2); (try clear hk); (try clear hi); (try clear ho0); obtain ⟨Ao12, co12, eo12⟩ := Kd.R_slice HO111.out; subst eo12) | ((with_reducible refine gate_callee (f := 29) rfl ?_); refine goesL_ (some 30) rfl rfl Try.func29 (by kernel_rfl) rfl #[.slice Ao12 t109.length co12] rfl (by (try simp only [List.map_toArray, List.map_cons, List.map_nil]); first | done | rfl | (simp only [List.length_drop, List.length_take]; rfl)) ?_; (with_reducible refine (impl_LeastDifference.calls k _ _ t109 t112 t113 t114 _ ?side1 ?side2 A6.out).mono ?_); (case side1 => repeat (first | exact (Kd.R_reads' HO111.out).2.2 | (with_reducible refine Kd.C_alloc ?_ _) | (with_reducible refine Kd.C_drewN ?_ _) | (with_reducible refine Kd.C_drew ?_))); (case side2 => exact (Kd.R_reads' HO111.out).2.1); rintro e w13 ⟨v115, rfl, ho0, hb⟩; refine ⟨_, rfl, ?_⟩; have n0_ := Aside0.mk (Kd.R_elder' (by (with_reducible repeat (first | apply Kd.R_alloc | apply Kd.R_drewN | apply Kd.R_drew)); exact HO103.out) (Kd.R_base ho0) hb); have n1_ := Aside0.mk (Kd.R_elder' (by (with_reducible repeat (first | apply Kd.R_alloc | apply Kd.R_drewN | apply Kd.R_drew)); exact HO108.out) (Kd.R_base ho0) hb); have n2_ := Aside0.mk (Kd.R_elder' (by (with_reducible repeat (first | apply Kd.R_alloc | apply Kd.R_drewN | apply Kd.R_drew)); exact HO111.out) (Kd.R_base ho0) hb); have n3_ := Aside0.mk (Kd.R_lower (Kd.R_new' (Kd.R_new' (Kd.R_new' ho0 (Kd.R_lt (by (with_reducible repeat (first | apply Kd.R_alloc | apply Kd.R_drewN | apply Kd.R_drew)); exact HO103.out))) (Kd.R_lt (by (with_reducible repeat (first | apply Kd.R_alloc | apply Kd.R_drewN | apply Kd.R_drew)); exact HO108.out))) (Kd.R_lt (by (with_reducible repeat (first | apply Kd.R_alloc | apply Kd.R_drewN | apply Kd.R_drew)); exact HO111.out))) (below_size (by repeat (first | (with_reducible first | exact HB.out | apply below_alloc | apply pw_below_drewN | apply below_drew1) | exact HB.out)))); have n4_ := Aside0.mk (below_step (by repeat (first | (with_reducible first | exact HB.out | apply below_alloc | apply pw_below_drewN | apply below_drew1) | exact HB.out)) hb); clear HO103; clear HO108; clear HO111; clear HB; have HO103 := n0_; have HO108 := n1_; have HO111 := n2_; have HO116 := n3_; have HB := n4_; clear n0_ n1_ n2_ n3_ n4_; (try clear hb); (try clear hb2); (try clear hk); (try clear hi); (try clear ho0)))
    (try simp only [Act.put, List.setIfInBounds_toArray, List.set_cons_zero, List.set_cons_succ])
    go_cut [47] (fun v47 wc => ∃ (kq : Nat) (x47_6 : Bool), v47 = .bool x47_6 ∧ Aside0 (laws_FnExactLeastDifference.j0 kq l0 t104 t105 t106 t109 t112 t113 t114 x47_6 = some r) ∧ Aside0 (kq ≤ k) ∧ Aside0 (Kd.R (Kd.int .i64) 2 wc w.heap.size (fun k_ => some k_ ≠ ((.slice Ao12 t109.length co12) : Value).ownBlock ∧ some k_ ≠ (v115 : Value).ownBlock) v107 t104) ∧ Aside0 (Kd.R (Kd.int .i64) 2 wc w.heap.size (fun k_ => some k_ ≠ (v107 : Value).ownBlock ∧ some k_ ≠ (v115 : Value).ownBlock) (.slice Ao12 t109.length co12) t109) ∧ Aside0 (Kd.R (Kd.int .i64) 2 wc w.heap.size (fun k_ => some k_ ≠ (v107 : Value).ownBlock ∧ some k_ ≠ ((.slice Ao12 t109.length co12) : Value).ownBlock) v115 t112) ∧ Aside0 (Below w.heap.size w wc))
    case first =>
      have H := HC7.out
      clear HC7
      replace H := Option.bind_eq_some_iff.mp H
      obtain ⟨t117, A140, H⟩ := H
      replace H : (if t117 = true then (if t113 = t105 then (laws_FnExactLeastDifference.j0 k l0 t104 t105 t106 t109 t112 t113 t114 (t114 != t106)) else (laws_FnExactLeastDifference.j0 k l0 t104 t105 t106 t109 t112 t113 t114 true)) else (laws_FnExactLeastDifference.j0 k l0 t104 t105 t106 t109 t112 t113 t114 true)) = some r := H
      have A14 := Aside0.mk A140
      clear A140
      by_cases c15 : t117 = true
      · subst c15
        have H1 : (if t113 = t105 then (laws_FnExactLeastDifference.j0 k l0 t104 t105 t106 t109 t112 t113 t114 (t114 != t106)) else (laws_FnExactLeastDifference.j0 k l0 t104 t105 t106 t109 t112 t113 t114 true)) = some r := by rw [if_pos rfl] at H; exact H
        clear H
        have H := H1
        clear H1
        by_cases c16 : t113 = t105
        · rw [if_pos c16] at H
          have c16b0 : (t113 == t105) = true := beq_iff_eq.mpr c16
          have c16b1 : (t113 != t105) = false := bne_eq_false_iff_eq.mpr c16
          clear c16
          (first | rw [c16b0] | (simp only [i64_w, i32_w]; rw [c16b0]) | skip)
          have H' := Aside0.mk H
          clear H
          obtain ⟨Ao17, co17, eo17⟩ := Kd.R_slice HO116.out
          subst eo17
          obtain ⟨Ao18, co18, eo18⟩ := Kd.R_slice HO108.out
          subst eo18
          go_wp2_with (first | ((with_reducible refine gate_callee (f := 25) rfl ?_); refine goesL_ (some 36) rfl rfl Try.func25 (by kernel_rfl) rfl #[.slice Ao17 t112.length co17, .slice Ao18 t104.length co18] rfl (by (try simp only [List.map_toArray, List.map_cons, List.map_nil]); first | done | rfl | (simp only [List.length_drop, List.length_take]; rfl)) ?_; (with_reducible refine (laws_eqInt64S.calls k _ _ t112 _ _ t104 true _ ?side1 ?side2 ?side3 ?side4 A14.out).mono ?_); (case side1 => repeat (first | exact (Kd.R_reads' HO116.out).2.2 | (with_reducible refine Kd.C_alloc ?_ _) | (with_reducible refine Kd.C_drewN ?_ _) | (with_reducible refine Kd.C_drew ?_))); (case side2 => exact (Kd.R_reads' HO116.out).2.1); (case side3 => repeat (first | exact (Kd.R_reads' HO108.out).2.2 | (with_reducible refine Kd.C_alloc ?_ _) | (with_reducible refine Kd.C_drewN ?_ _) | (with_reducible refine Kd.C_drew ?_))); (case side4 => exact (Kd.R_reads' HO108.out).2.1); rintro e w' ⟨rfl, ⟨nd, rfl⟩⟩; refine ⟨_, rfl, ?_⟩))
          go_meet
          case rel => exact ⟨_, ((t114 != t106)), (by first | rfl | (simp; done) | (simp [*]; done)), H', ⟨by first | omega | exact Nat.le_refl _⟩, ⟨by (with_reducible repeat (first | apply Kd.R_alloc | apply Kd.R_drewN | apply Kd.R_drew)); exact Kd.R_mono HO108.out (fun _ hk => ⟨hk.1.2, hk.2⟩)⟩, ⟨by (with_reducible repeat (first | apply Kd.R_alloc | apply Kd.R_drewN | apply Kd.R_drew)); exact Kd.R_mono HO111.out (fun _ hk => ⟨hk.1.2, hk.2⟩)⟩, ⟨by (with_reducible repeat (first | apply Kd.R_alloc | apply Kd.R_drewN | apply Kd.R_drew)); exact Kd.R_mono HO116.out (fun _ hk => ⟨hk.1.2, hk.2⟩)⟩, ⟨by repeat (first | (with_reducible first | exact HB.out | apply below_alloc | apply pw_below_drewN | apply below_drew1) | exact HB.out)⟩⟩
        · rw [if_neg c16] at H
          have c16b0 : (t113 == t105) = false := beq_eq_false_iff_ne.mpr c16
          have c16b1 : (t113 != t105) = true := bne_iff_ne.mpr c16
          (first | rw [c16b0] | (simp only [i64_w, i32_w]; rw [c16b0]) | skip)
          have H' := Aside0.mk H
          clear H
          obtain ⟨Ao19, co19, eo19⟩ := Kd.R_slice HO116.out
          subst eo19
          obtain ⟨Ao20, co20, eo20⟩ := Kd.R_slice HO108.out
          subst eo20
          go_wp2_with (first | ((with_reducible refine gate_callee (f := 25) rfl ?_); refine goesL_ (some 36) rfl rfl Try.func25 (by kernel_rfl) rfl #[.slice Ao19 t112.length co19, .slice Ao20 t104.length co20] rfl (by (try simp only [List.map_toArray, List.map_cons, List.map_nil]); first | done | rfl | (simp only [List.length_drop, List.length_take]; rfl)) ?_; (with_reducible refine (laws_eqInt64S.calls k _ _ t112 _ _ t104 true _ ?side1 ?side2 ?side3 ?side4 A14.out).mono ?_); (case side1 => repeat (first | exact (Kd.R_reads' HO116.out).2.2 | (with_reducible refine Kd.C_alloc ?_ _) | (with_reducible refine Kd.C_drewN ?_ _) | (with_reducible refine Kd.C_drew ?_))); (case side2 => exact (Kd.R_reads' HO116.out).2.1); (case side3 => repeat (first | exact (Kd.R_reads' HO108.out).2.2 | (with_reducible refine Kd.C_alloc ?_ _) | (with_reducible refine Kd.C_drewN ?_ _) | (with_reducible refine Kd.C_drew ?_))); (case side4 => exact (Kd.R_reads' HO108.out).2.1); rintro e w' ⟨rfl, ⟨nd, rfl⟩⟩; refine ⟨_, rfl, ?_⟩))
          go_meet
          case rel => exact ⟨_, (true), (by first | rfl | (simp; done) | (simp [*]; done)), H', ⟨by first | omega | exact Nat.le_refl _⟩, ⟨by (with_reducible repeat (first | apply Kd.R_alloc | apply Kd.R_drewN | apply Kd.R_drew)); exact Kd.R_mono HO108.out (fun _ hk => ⟨hk.1.2, hk.2⟩)⟩, ⟨by (with_reducible repeat (first | apply Kd.R_alloc | apply Kd.R_drewN | apply Kd.R_drew)); exact Kd.R_mono HO111.out (fun _ hk => ⟨hk.1.2, hk.2⟩)⟩, ⟨by (with_reducible repeat (first | apply Kd.R_alloc | apply Kd.R_drewN | apply Kd.R_drew)); exact Kd.R_mono HO116.out (fun _ hk => ⟨hk.1.2, hk.2⟩)⟩, ⟨by repeat (first | (with_reducible first | exact HB.out | apply below_alloc | apply pw_below_drewN | apply below_drew1) | exact HB.out)⟩⟩
      · replace c15 := Bool.eq_false_iff.mpr c15
        subst c15
        have H1 : (laws_FnExactLeastDifference.j0 k l0 t104 t105 t106 t109 t112 t113 t114 true) = some r := by rw [if_neg (show ¬ (false = true) by decide)] at H; exact H
        clear H
        have H := H1
        clear H1
        have H' := Aside0.mk H
        clear H
        obtain ⟨Ao21, co21, eo21⟩ := Kd.R_slice HO116.out
        subst eo21
        obtain ⟨Ao22, co22, eo22⟩ := Kd.R_slice HO108.out
        subst eo22
        go_wp2_with (first | ((with_reducible refine gate_callee (f := 25) rfl ?_); refine goesL_ (some 36) rfl rfl Try.func25 (by kernel_rfl) rfl #[.slice Ao21 t112.length co21, .slice Ao22 t104.length co22] rfl (by (try simp only [List.map_toArray, List.map_cons, List.map_nil]); first | done | rfl | (simp only [List.length_drop, List.length_take]; rfl)) ?_; (with_reducible refine (laws_eqInt64S.calls k _ _ t112 _ _ t104 false _ ?side1 ?side2 ?side3 ?side4 A14.out).mono ?_); (case side1 => repeat (first | exact (Kd.R_reads' HO116.out).2.2 | (with_reducible refine Kd.C_alloc ?_ _) | (with_reducible refine Kd.C_drewN ?_ _) | (with_reducible refine Kd.C_drew ?_))); (case side2 => exact (Kd.R_reads' HO116.out).2.1); (case side3 => repeat (first | exact (Kd.R_reads' HO108.out).2.2 | (with_reducible refine Kd.C_alloc ?_ _) | (with_reducible refine Kd.C_drewN ?_ _) | (with_reducible refine Kd.C_drew ?_))); (case side4 => exact (Kd.R_reads' HO108.out).2.1); rintro e w' ⟨rfl, ⟨nd, rfl⟩⟩; refine ⟨_, rfl, ?_⟩))
        go_meet
        case rel => exact ⟨_, (true), (by first | rfl | (simp; done) | (simp [*]; done)), H', ⟨by first | omega | exact Nat.le_refl _⟩, ⟨by (with_reducible repeat (first | apply Kd.R_alloc | apply Kd.R_drewN | apply Kd.R_drew)); exact Kd.R_mono HO108.out (fun _ hk => ⟨hk.1.2, hk.2⟩)⟩, ⟨by (with_reducible repeat (first | apply Kd.R_alloc | apply Kd.R_drewN | apply Kd.R_drew)); exact Kd.R_mono HO111.out (fun _ hk => ⟨hk.1.2, hk.2⟩)⟩, ⟨by (with_reducible repeat (first | apply Kd.R_alloc | apply Kd.R_drewN | apply Kd.R_drew)); exact Kd.R_mono HO116.out (fun _ hk => ⟨hk.1.2, hk.2⟩)⟩, ⟨by repeat (first | (with_reducible first | exact HB.out | apply below_alloc | apply pw_below_drewN | apply below_drew1) | exact HB.out)⟩⟩
    case rest =>
      clear HC7
      try clear c1
      try clear c2
      try clear c2b0
      try clear c2b1
      try clear p2
      try clear c6
      try clear c15
      try clear c16
      try clear c16b0
      try clear c16b1
      obtain ⟨kq, x47_6, rfl, HA, HJ6, HO_3, HO_6, HO_7, HB⟩ := hcut
      cases kq with
      | zero => exact absurd HA.out (by simp [laws_FnExactLeastDifference.j0])
      | succ kj6 =>
        have H := HA.out
        clear HA
        simp only [laws_FnExactLeastDifference.j0] at H
        by_cases c23 : x47_6 = true
        · subst c23
          have H1 : (some false) = some r := by rw [if_pos rfl] at H; exact H
          clear H
          have H := H1
          clear H1
          obtain rfl := Option.some.inj H
          go_wp2
          go_ret
          exact ⟨by first | rfl | (simp [errW_none, errW_some] <;> rfl) | (simp [*, errW_none, errW_some] <;> rfl), by repeat (first | (with_reducible first | exact HB.out | apply below_alloc | apply pw_below_drewN | apply below_drew1) | exact HB.out)⟩
        · replace c23 := Bool.eq_false_iff.mpr c23
          subst c23
          have H1 : ((laws_toInt64S.f kj6 l0).bind fun t118 => ((laws_eqInt64S.f kj6 t109 t118).bind fun t121 => (if t121 = true then ((laws_markInt64S.f kj6 t109 1).bind fun bt122 => (if bt122.1 < 0 then (laws_FnExactLeastDifference.j1 kj6 l0 t104 t105 t106 t112 true) else ((laws_eqInt64S.f kj6 t112 t104).bind fun t124 => (if t124 = true then (if t113 = t105 then (laws_FnExactLeastDifference.j1 kj6 l0 t104 t105 t106 t112 (t114 != t106)) else (laws_FnExactLeastDifference.j1 kj6 l0 t104 t105 t106 t112 true)) else (laws_FnExactLeastDifference.j1 kj6 l0 t104 t105 t106 t112 true))))) else (some false)))) = some r := by rw [if_neg (show ¬ (false = true) by decide)] at H; exact H
          clear H
          have H := H1
          clear H1
          replace H := Option.bind_eq_some_iff.mp H
          obtain ⟨t118, A240, H⟩ := H
          replace H : ((laws_eqInt64S.f kj6 t109 t118).bind fun t121 => (if t121 = true then ((laws_markInt64S.f kj6 t109 1).bind fun bt122 => (if bt122.1 < 0 then (laws_FnExactLeastDifference.j1 kj6 l0 t104 t105 t106 t112 true) else ((laws_eqInt64S.f kj6 t112 t104).bind fun t124 => (if t124 = true then (if t113 = t105 then (laws_FnExactLeastDifference.j1 kj6 l0 t104 t105 t106 t112 (t114 != t106)) else (laws_FnExactLeastDifference.j1 kj6 l0 t104 t105 t106 t112 true)) else (laws_FnExactLeastDifference.j1 kj6 l0 t104 t105 t106 t112 true))))) else (some false))) = some r := H
          have A24 := Aside0.mk A240
          clear A240
          replace H := Option.bind_eq_some_iff.mp H
          obtain ⟨t121, A250, H⟩ := H
          replace H : (if t121 = true then ((laws_markInt64S.f kj6 t109 1).bind fun bt122 => (if bt122.1 < 0 then (laws_FnExactLeastDifference.j1 kj6 l0 t104 t105 t106 t112 true) else ((laws_eqInt64S.f kj6 t112 t104).bind fun t124 => (if t124 = true then (if t113 = t105 then (laws_FnExactLeastDifference.j1 kj6 l0 t104 t105 t106 t112 (t114 != t106)) else (laws_FnExactLeastDifference.j1 kj6 l0 t104 t105 t106 t112 true)) else (laws_FnExactLeastDifference.j1 kj6 l0 t104 t105 t106 t112 true))))) else (some false)) = some r := H
          have A25 := Aside0.mk A250
          clear A250
          by_cases c26 : t121 = true
          · subst c26
            have H1 : ((laws_markInt64S.f kj6 t109 1).bind fun bt122 => (if bt122.1 < 0 then (laws_FnExactLeastDifference.j1 kj6 l0 t104 t105 t106 t112 true) else ((laws_eqInt64S.f kj6 t112 t104).bind fun t124 => (if t124 = true then (if t113 = t105 then (laws_FnExactLeastDifference.j1 kj6 l0 t104 t105 t106 t112 (t114 != t106)) else (laws_FnExactLeastDifference.j1 kj6 l0 t104 t105 t106 t112 true)) else (laws_FnExactLeastDifference.j1 kj6 l0 t104 t105 t106 t112 true))))) = some r := by rw [if_pos rfl] at H; exact H
            clear H
            have H := H1
            clear H1
            replace H := Option.bind_eq_some_iff.mp H
            obtain ⟨⟨t122, t123⟩, A270, H⟩ := H
            replace H : (if t122 < 0 then (laws_FnExactLeastDifference.j1 kj6 l0 t104 t105 t106 t112 true) else ((laws_eqInt64S.f kj6 t112 t104).bind fun t124 => (if t124 = true then (if t113 = t105 then (laws_FnExactLeastDifference.j1 kj6 l0 t104 t105 t106 t112 (t114 != t106)) else (laws_FnExactLeastDifference.j1 kj6 l0 t104 t105 t106 t112 true)) else (laws_FnExactLeastDifference.j1 kj6 l0 t104 t105 t106 t112 true)))) = some r := H
            have A27 := Aside0.mk A270
            clear A270
            have HC28 := Aside0.mk H
            clear H
            go_upto_region 12 with (first | ((with_reducible refine gate_callee (f := 23) rfl ?_); refine goesL_ (some 50) rfl rfl Try.func23 (by kernel_rfl) rfl #[.slice A0 l0.length c0] rfl (by (try simp only [List.map_toArray, List.map_cons, List.map_nil]); first | done | rfl | (simp only [List.length_drop, List.length_take]; rfl)) ?_; (with_reducible refine (laws_toInt64S.calls kj6 _ _ l0 t118 _ ?side1 ?side2 A24.out).mono ?_); (case side1 => repeat (first | exact (Kd.C_below HR0.out HB.out) | (with_reducible refine Kd.C_alloc ?_ _) | (with_reducible refine Kd.C_drewN ?_ _) | (with_reducible refine Kd.C_drew ?_))); (case side2 => exact HC0.out); rintro e w29 ⟨v119, rfl, ho0, hb⟩; refine ⟨_, rfl, ?_⟩; have n0_ := Aside0.mk (Kd.R_elder' (by (with_reducible repeat (first | apply Kd.R_alloc | apply Kd.R_drewN | apply Kd.R_drew)); exact HO_3.out) (Kd.R_base ho0) hb); have n1_ := Aside0.mk (Kd.R_elder' (by (with_reducible repeat (first | apply Kd.R_alloc | apply Kd.R_drewN | apply Kd.R_drew)); exact HO_6.out) (Kd.R_base ho0) hb); have n2_ := Aside0.mk (Kd.R_elder' (by (with_reducible repeat (first | apply Kd.R_alloc | apply Kd.R_drewN | apply Kd.R_drew)); exact HO_7.out) (Kd.R_base ho0) hb); have n3_ := Aside0.mk (Kd.R_lower (Kd.R_new' (Kd.R_new' (Kd.R_new' ho0 (Kd.R_lt (by (with_reducible repeat (first | apply Kd.R_alloc | apply Kd.R_drewN | apply Kd.R_drew)); exact HO_3.out))) (Kd.R_lt (by (with_reducible repeat (first | apply Kd.R_alloc | apply Kd.R_drewN | apply Kd.R_drew)); exact HO_6.out))) (Kd.R_lt (by (with_reducible repeat (first | apply Kd.R_alloc | apply Kd.R_drewN | apply Kd.R_drew)); exact HO_7.out))) (below_size (by repeat (first | (with_reducible first | exact HB.out | apply below_alloc | apply pw_below_drewN | apply below_drew1) | exact HB.out)))); have n4_ := Aside0.mk (below_step (by repeat (first | (with_reducible first | exact HB.out | apply below_alloc | apply pw_below_drewN | apply below_drew1) | exact HB.out)) hb); clear HO_3; clear HO_6; clear HO_7; clear HB; have HO_3 := n0_; have HO_6 := n1_; have HO_7 := n2_; have HO120 := n3_; have HB := n4_; clear n0_ n1_ n2_ n3_ n4_; (try clear hb); (try clear hb2); (try clear hk); (try clear hi); (try clear ho0); obtain ⟨Ao30, co30, eo30⟩ := Kd.R_slice HO120.out; subst eo30) | ((with_reducible refine gate_callee (f := 25) rfl ?_); refine goesL_ (some 51) rfl rfl Try.func25 (by kernel_rfl) rfl #[.slice Ao12 t109.length co12, .slice Ao30 t118.length co30] rfl (by (try simp only [List.map_toArray, List.map_cons, List.map_nil]); first | done | rfl | (simp only [List.length_drop, List.length_take]; rfl)) ?_; (with_reducible refine (laws_eqInt64S.calls kj6 _ _ t109 _ _ t118 true _ ?side1 ?side2 ?side3 ?side4 A25.out).mono ?_); (case side1 => repeat (first | exact (Kd.R_reads' HO_6.out).2.2 | (with_reducible refine Kd.C_alloc ?_ _) | (with_reducible refine Kd.C_drewN ?_ _) | (with_reducible refine Kd.C_drew ?_))); (case side2 => exact (Kd.R_reads' HO_6.out).2.1); (case side3 => repeat (first | exact (Kd.R_reads' HO120.out).2.2 | (with_reducible refine Kd.C_alloc ?_ _) | (with_reducible refine Kd.C_drewN ?_ _) | (with_reducible refine Kd.C_drew ?_))); (case side4 => exact (Kd.R_reads' HO120.out).2.1); rintro e w' ⟨rfl, ⟨nd, rfl⟩⟩; refine ⟨_, rfl, ?_⟩) | ((with_reducible refine gate_callee (f := 26) rfl ?_); refine goesL_ (some 55) rfl rfl Try.func26 (by kernel_rfl) rfl #[.slice Ao12 t109.length co12, .int .i64 1] rfl (by (try simp only [List.map_toArray, List.map_cons, List.map_nil]); first | done | rfl | (simp only [List.length_drop, List.length_take]; rfl)) ?_; (with_reducible refine (laws_markInt64S.calls kj6 (fun k_ => some k_ = (.slice Ao12 t109.length co12 : Value).ownBlock) (.slice Ao12 t109.length co12) t109 1 t122 t123 w _ ?side1 ?side2 A27.out).mono ?_); (case side1 => repeat (first | (with_reducible first | exact HB.out | apply below_alloc | apply pw_below_drewN | apply below_drew1) | exact HB.out)); (case side2 => exact Kd.R_tight rfl HO_6.out); rintro e w31 ⟨rfl, hy0, hb, hkp⟩; refine ⟨_, rfl, ?_⟩; have n0_ := Aside0.mk (Kd.R_mono (ok' := fun k_ => some k_ ≠ (.slice Ao12 t109.length co12 : Value).ownBlock ∧ some k_ ≠ (v115 : Value).ownBlock ∧ some k_ ≠ (.slice Ao30 t118.length co30 : Value).ownBlock) (Kd.R_keptB (HO_3.out) hkp (fun k_ hk_ hs_ => (hk_.1.1) hs_)) (fun k_ hk_ => ⟨hk_.1.1.1, hk_.1.1.2, hk_.1.2⟩)); have n1_ := Aside0.mk (Kd.R_reok rfl hy0 (fun k_ e_ => HO_6.out.1 k_ e_)); have n2_ := Aside0.mk (Kd.R_mono (ok' := fun k_ => some k_ ≠ (v107 : Value).ownBlock ∧ some k_ ≠ (.slice Ao12 t109.length co12 : Value).ownBlock ∧ some k_ ≠ (.slice Ao30 t118.length co30 : Value).ownBlock) (Kd.R_keptB (HO_7.out) hkp (fun k_ hk_ hs_ => (hk_.1.2) hs_)) (fun k_ hk_ => ⟨hk_.1.1.1, hk_.1.1.2, hk_.1.2⟩)); have n3_ := Aside0.mk (Kd.R_mono (ok' := fun k_ => some k_ ≠ (v107 : Value).ownBlock ∧ some k_ ≠ (.slice Ao12 t109.length co12 : Value).ownBlock ∧ some k_ ≠ (v115 : Value).ownBlock) (Kd.R_keptB (HO120.out) hkp (fun k_ hk_ hs_ => (hk_.1.2) hs_)) (fun k_ hk_ => ⟨hk_.1.1.1.2, hk_.1.1.2, hk_.1.2⟩)); have n4_ := Aside0.mk (hb); clear HO_3; clear HO_6; clear HO_7; clear HO120; clear HB; have HO_3 := n0_; have HO_6 := n1_; have HO_7 := n2_; have HO120 := n3_; have HB := n4_; clear n0_ n1_ n2_ n3_ n4_; (try clear hb); (try clear hkp); (try clear hy0)))
            (try simp only [Act.put, List.setIfInBounds_toArray, List.set_cons_zero, List.set_cons_succ])
            go_cut [73] (fun v73 wc => ∃ (kq : Nat) (x73_27 : Bool), v73 = .bool x73_27 ∧ Aside0 (laws_FnExactLeastDifference.j1 kq l0 t104 t105 t106 t112 x73_27 = some r) ∧ Aside0 (kq ≤ kj6) ∧ Aside0 (Kd.R (Kd.int .i64) 2 wc w.heap.size (fun k_ => some k_ ≠ (v115 : Value).ownBlock) v107 t104) ∧ Aside0 (Kd.R (Kd.int .i64) 2 wc w.heap.size (fun k_ => some k_ ≠ (v107 : Value).ownBlock) v115 t112) ∧ Aside0 (Below w.heap.size w wc))
            case first =>
              have H := HC28.out
              clear HC28
              by_cases c32 : t122 < 0
              · rw [if_pos c32] at H
                have c32b0 : decide (t122 < 0) = true := decide_eq_true c32
                clear c32
                (first | rw [c32b0] | (simp only [i64_w, i32_w]; rw [c32b0]) | skip)
                have H' := Aside0.mk H
                clear H
                go_wp2
                go_meet
                case rel => exact ⟨_, (true), (by first | rfl | (simp; done) | (simp [*]; done)), H', ⟨by have := HJ6.out; first | omega | exact Nat.le_refl _⟩, ⟨by (with_reducible repeat (first | apply Kd.R_alloc | apply Kd.R_drewN | apply Kd.R_drew)); exact Kd.R_mono HO_3.out (fun _ hk => hk.2.1)⟩, ⟨by (with_reducible repeat (first | apply Kd.R_alloc | apply Kd.R_drewN | apply Kd.R_drew)); exact Kd.R_mono HO_7.out (fun _ hk => hk.1)⟩, ⟨by repeat (first | (with_reducible first | exact HB.out | apply below_alloc | apply pw_below_drewN | apply below_drew1) | exact HB.out)⟩⟩
              · rw [if_neg c32] at H
                have c32b0 : decide (t122 < 0) = false := decide_eq_false c32
                clear c32
                (first | rw [c32b0] | (simp only [i64_w, i32_w]; rw [c32b0]) | skip)
                replace H := Option.bind_eq_some_iff.mp H
                obtain ⟨t124, A330, H⟩ := H
                replace H : (if t124 = true then (if t113 = t105 then (laws_FnExactLeastDifference.j1 kj6 l0 t104 t105 t106 t112 (t114 != t106)) else (laws_FnExactLeastDifference.j1 kj6 l0 t104 t105 t106 t112 true)) else (laws_FnExactLeastDifference.j1 kj6 l0 t104 t105 t106 t112 true)) = some r := H
                have A33 := Aside0.mk A330
                clear A330
                by_cases c34 : t124 = true
                · subst c34
                  have H1 : (if t113 = t105 then (laws_FnExactLeastDifference.j1 kj6 l0 t104 t105 t106 t112 (t114 != t106)) else (laws_FnExactLeastDifference.j1 kj6 l0 t104 t105 t106 t112 true)) = some r := by rw [if_pos rfl] at H; exact H
                  clear H
                  have H := H1
                  clear H1
                  by_cases c35 : t113 = t105
                  · rw [if_pos c35] at H
                    have c35b0 : (t113 == t105) = true := beq_iff_eq.mpr c35
                    have c35b1 : (t113 != t105) = false := bne_eq_false_iff_eq.mpr c35
                    clear c35
                    have H' := Aside0.mk H
                    clear H
                    obtain ⟨Ao36, co36, eo36⟩ := Kd.R_slice HO_7.out
                    subst eo36
                    obtain ⟨Ao37, co37, eo37⟩ := Kd.R_slice HO_3.out
                    subst eo37
                    go_wp2_with (first | (go_at_call 25; (with_reducible refine (laws_eqInt64S.calls kj6 _ _ t112 _ _ t104 true _ ?side1 ?side2 ?side3 ?side4 A33.out).mono ?_); (case side1 => repeat (first | exact (Kd.R_reads' HO_7.out).2.2 | (with_reducible refine Kd.C_alloc ?_ _) | (with_reducible refine Kd.C_drewN ?_ _) | (with_reducible refine Kd.C_drew ?_))); (case side2 => exact (Kd.R_reads' HO_7.out).2.1); (case side3 => repeat (first | exact (Kd.R_reads' HO_3.out).2.2 | (with_reducible refine Kd.C_alloc ?_ _) | (with_reducible refine Kd.C_drewN ?_ _) | (with_reducible refine Kd.C_drew ?_))); (case side4 => exact (Kd.R_reads' HO_3.out).2.1); rintro e w' ⟨rfl, ⟨nd, rfl⟩⟩))
                    go_meet
                    case rel => exact ⟨_, ((t114 != t106)), (by first | rfl | (simp; done) | (simp [*]; done)), H', ⟨by have := HJ6.out; first | omega | exact Nat.le_refl _⟩, ⟨by (with_reducible repeat (first | apply Kd.R_alloc | apply Kd.R_drewN | apply Kd.R_drew)); exact Kd.R_mono HO_3.out (fun _ hk => hk.2.1)⟩, ⟨by (with_reducible repeat (first | apply Kd.R_alloc | apply Kd.R_drewN | apply Kd.R_drew)); exact Kd.R_mono HO_7.out (fun _ hk => hk.1)⟩, ⟨by repeat (first | (with_reducible first | exact HB.out | apply below_alloc | apply pw_below_drewN | apply below_drew1) | exact HB.out)⟩⟩
                  · rw [if_neg c35] at H
                    have c35b0 : (t113 == t105) = false := beq_eq_false_iff_ne.mpr c35
                    have c35b1 : (t113 != t105) = true := bne_iff_ne.mpr c35
                    have H' := Aside0.mk H
                    clear H
                    obtain ⟨Ao38, co38, eo38⟩ := Kd.R_slice HO_7.out
                    subst eo38
                    obtain ⟨Ao39, co39, eo39⟩ := Kd.R_slice HO_3.out
                    subst eo39
                    go_wp2_with (first | (go_at_call 25; (with_reducible refine (laws_eqInt64S.calls kj6 _ _ t112 _ _ t104 true _ ?side1 ?side2 ?side3 ?side4 A33.out).mono ?_); (case side1 => repeat (first | exact (Kd.R_reads' HO_7.out).2.2 | (with_reducible refine Kd.C_alloc ?_ _) | (with_reducible refine Kd.C_drewN ?_ _) | (with_reducible refine Kd.C_drew ?_))); (case side2 => exact (Kd.R_reads' HO_7.out).2.1); (case side3 => repeat (first | exact (Kd.R_reads' HO_3.out).2.2 | (with_reducible refine Kd.C_alloc ?_ _) | (with_reducible refine Kd.C_drewN ?_ _) | (with_reducible refine Kd.C_drew ?_))); (case side4 => exact (Kd.R_reads' HO_3.out).2.1); rintro e w' ⟨rfl, ⟨nd, rfl⟩⟩))
                    go_meet
                    case rel => exact ⟨_, (true), (by first | rfl | (simp; done) | (simp [*]; done)), H', ⟨by have := HJ6.out; first | omega | exact Nat.le_refl _⟩, ⟨by (with_reducible repeat (first | apply Kd.R_alloc | apply Kd.R_drewN | apply Kd.R_drew)); exact Kd.R_mono HO_3.out (fun _ hk => hk.2.1)⟩, ⟨by (with_reducible repeat (first | apply Kd.R_alloc | apply Kd.R_drewN | apply Kd.R_drew)); exact Kd.R_mono HO_7.out (fun _ hk => hk.1)⟩, ⟨by repeat (first | (with_reducible first | exact HB.out | apply below_alloc | apply pw_below_drewN | apply below_drew1) | exact HB.out)⟩⟩
                · replace c34 := Bool.eq_false_iff.mpr c34
                  subst c34
                  have H1 : (laws_FnExactLeastDifference.j1 kj6 l0 t104 t105 t106 t112 true) = some r := by rw [if_neg (show ¬ (false = true) by decide)] at H; exact H
                  clear H
                  have H := H1
                  clear H1
                  have H' := Aside0.mk H
                  clear H
                  obtain ⟨Ao40, co40, eo40⟩ := Kd.R_slice HO_7.out
                  subst eo40
                  obtain ⟨Ao41, co41, eo41⟩ := Kd.R_slice HO_3.out
                  subst eo41
                  go_wp2_with (first | (go_at_call 25; (with_reducible refine (laws_eqInt64S.calls kj6 _ _ t112 _ _ t104 false _ ?side1 ?side2 ?side3 ?side4 A33.out).mono ?_); (case side1 => repeat (first | exact (Kd.R_reads' HO_7.out).2.2 | (with_reducible refine Kd.C_alloc ?_ _) | (with_reducible refine Kd.C_drewN ?_ _) | (with_reducible refine Kd.C_drew ?_))); (case side2 => exact (Kd.R_reads' HO_7.out).2.1); (case side3 => repeat (first | exact (Kd.R_reads' HO_3.out).2.2 | (with_reducible refine Kd.C_alloc ?_ _) | (with_reducible refine Kd.C_drewN ?_ _) | (with_reducible refine Kd.C_drew ?_))); (case side4 => exact (Kd.R_reads' HO_3.out).2.1); rintro e w' ⟨rfl, ⟨nd, rfl⟩⟩))
                  go_meet
                  case rel => exact ⟨_, (true), (by first | rfl | (simp; done) | (simp [*]; done)), H', ⟨by have := HJ6.out; first | omega | exact Nat.le_refl _⟩, ⟨by (with_reducible repeat (first | apply Kd.R_alloc | apply Kd.R_drewN | apply Kd.R_drew)); exact Kd.R_mono HO_3.out (fun _ hk => hk.2.1)⟩, ⟨by (with_reducible repeat (first | apply Kd.R_alloc | apply Kd.R_drewN | apply Kd.R_drew)); exact Kd.R_mono HO_7.out (fun _ hk => hk.1)⟩, ⟨by repeat (first | (with_reducible first | exact HB.out | apply below_alloc | apply pw_below_drewN | apply below_drew1) | exact HB.out)⟩⟩
            case rest =>
              clear HC28
              try clear c1
              try clear c2
              try clear c2b0
              try clear c2b1
              try clear p2
              try clear c3
              try clear c6
              try clear c15
              try clear c16
              try clear c16b0
              try clear c16b1
              try clear c23
              try clear c25
              try clear c26
              try clear c28
              try clear c29
              try clear c32
              try clear c32b0
              try clear c34
              try clear c35
              try clear c35b0
              try clear c35b1
              try clear p2
              obtain ⟨kq, x73_27, rfl, HA, HJ27, HO_3, HO_7, HB⟩ := hcut
              cases kq with
              | zero => exact absurd HA.out (by simp [laws_FnExactLeastDifference.j1])
              | succ kj27 =>
                have H := HA.out
                clear HA
                simp only [laws_FnExactLeastDifference.j1] at H
                by_cases c42 : x73_27 = true
                · subst c42
                  have H1 : (some false) = some r := by rw [if_pos rfl] at H; exact H
                  clear H
                  have H := H1
                  clear H1
                  obtain rfl := Option.some.inj H
                  go_wp2
                  go_ret
                  exact ⟨by first | rfl | (simp [errW_none, errW_some] <;> rfl) | (simp [*, errW_none, errW_some] <;> rfl), by repeat (first | (with_reducible first | exact HB.out | apply below_alloc | apply pw_below_drewN | apply below_drew1) | exact HB.out)⟩
                · replace c42 := Bool.eq_false_iff.mpr c42
                  subst c42
                  have H1 : ((laws_markInt64S.f kj27 t112 1).bind fun bt125 => ((laws_heldInt64S.f kj27 bt125.2 1).bind fun t127 => (if t127 < 0 then (some false) else (if t127 = bt125.1 then ((laws_toInt64S.f kj27 l0).bind fun t128 => ((impl_LeastDifference.f kj27 t128).bind fun bt131 => ((laws_eqInt64S.f kj27 bt131.1 t104).bind fun t136 => (if t136 = true then (if bt131.2.1 = t105 then (laws_FnExactLeastDifference.j2 kj27 bt125.2 bt125.1 (bt131.2.2 != t106)) else (laws_FnExactLeastDifference.j2 kj27 bt125.2 bt125.1 true)) else (laws_FnExactLeastDifference.j2 kj27 bt125.2 bt125.1 true))))) else (some false))))) = some r := by rw [if_neg (show ¬ (false = true) by decide)] at H; exact H
                  clear H
                  have H := H1
                  clear H1
                  replace H := Option.bind_eq_some_iff.mp H
                  obtain ⟨⟨t125, t126⟩, A430, H⟩ := H
                  replace H : ((laws_heldInt64S.f kj27 t126 1).bind fun t127 => (if t127 < 0 then (some false) else (if t127 = t125 then ((laws_toInt64S.f kj27 l0).bind fun t128 => ((impl_LeastDifference.f kj27 t128).bind fun bt131 => ((laws_eqInt64S.f kj27 bt131.1 t104).bind fun t136 => (if t136 = true then (if bt131.2.1 = t105 then (laws_FnExactLeastDifference.j2 kj27 t126 t125 (bt131.2.2 != t106)) else (laws_FnExactLeastDifference.j2 kj27 t126 t125 true)) else (laws_FnExactLeastDifference.j2 kj27 t126 t125 true))))) else (some false)))) = some r := H
                  have A43 := Aside0.mk A430
                  clear A430
                  replace H := Option.bind_eq_some_iff.mp H
                  obtain ⟨t127, A440, H⟩ := H
                  replace H : (if t127 < 0 then (some false) else (if t127 = t125 then ((laws_toInt64S.f kj27 l0).bind fun t128 => ((impl_LeastDifference.f kj27 t128).bind fun bt131 => ((laws_eqInt64S.f kj27 bt131.1 t104).bind fun t136 => (if t136 = true then (if bt131.2.1 = t105 then (laws_FnExactLeastDifference.j2 kj27 t126 t125 (bt131.2.2 != t106)) else (laws_FnExactLeastDifference.j2 kj27 t126 t125 true)) else (laws_FnExactLeastDifference.j2 kj27 t126 t125 true))))) else (some false))) = some r := H
                  have A44 := Aside0.mk A440
                  clear A440
                  by_cases c45 : t127 < 0
                  · rw [if_pos c45] at H
                    have c45b0 : decide (t127 < 0) = true := decide_eq_true c45
                    clear c45
                    obtain rfl := Option.some.inj H
                    obtain ⟨Ao46, co46, eo46⟩ := Kd.R_slice HO_7.out
                    subst eo46
                    go_wp2_with (first | ((with_reducible refine gate_callee (f := 26) rfl ?_); refine goesL_ (some 76) rfl rfl Try.func26 (by kernel_rfl) rfl #[.slice Ao46 t112.length co46, .int .i64 1] rfl (by (try simp only [List.map_toArray, List.map_cons, List.map_nil]); first | done | rfl | (simp only [List.length_drop, List.length_take]; rfl)) ?_; (with_reducible refine (laws_markInt64S.calls kj27 (fun k_ => some k_ = (.slice Ao46 t112.length co46 : Value).ownBlock) (.slice Ao46 t112.length co46) t112 1 t125 t126 w _ ?side1 ?side2 A43.out).mono ?_); (case side1 => repeat (first | (with_reducible first | exact HB.out | apply below_alloc | apply pw_below_drewN | apply below_drew1) | exact HB.out)); (case side2 => exact Kd.R_tight rfl HO_7.out); rintro e w47 ⟨rfl, hy0, hb, hkp⟩; refine ⟨_, rfl, ?_⟩; have n0_ := Aside0.mk (Kd.R_mono (ok' := fun k_ => some k_ ≠ (.slice Ao46 t112.length co46 : Value).ownBlock) (Kd.R_keptB (HO_3.out) hkp (fun k_ hk_ hs_ => (hk_) hs_)) (fun k_ hk_ => hk_.1)); have n1_ := Aside0.mk (Kd.R_reok rfl hy0 (fun k_ e_ => HO_7.out.1 k_ e_)); have n2_ := Aside0.mk (hb); clear HO_3; clear HO_7; clear HB; have HO_3 := n0_; have HO_7 := n1_; have HB := n2_; clear n0_ n1_ n2_; (try clear hb); (try clear hkp); (try clear hy0)) | ((with_reducible refine gate_callee (f := 27) rfl ?_); refine goesL_ (some 79) rfl rfl Try.func27 (by kernel_rfl) rfl #[.slice Ao46 t126.length co46, .int .i64 1] rfl (by (try simp only [List.map_toArray, List.map_cons, List.map_nil]); first | done | (rw [show t126.length = t112.length from (Kd.R_reads' HO_7.out).1.symm] <;> rfl) | rfl | (simp only [List.length_drop, List.length_take]; rfl)) ?_; (with_reducible refine (laws_heldInt64S.calls kj27 _ _ t126 1 t127 _ ?side1 ?side2 A44.out).mono ?_); (case side1 => repeat (first | exact (Kd.R_reads' HO_7.out).2.2 | (with_reducible refine Kd.C_alloc ?_ _) | (with_reducible refine Kd.C_drewN ?_ _) | (with_reducible refine Kd.C_drew ?_))); (case side2 => rw [show t126.length = t112.length from (Kd.R_reads' HO_7.out).1.symm]; exact (Kd.R_reads' HO_7.out).2.1); rintro e w' ⟨rfl, ⟨nd, rfl⟩⟩; refine ⟨_, rfl, ?_⟩))
                    go_ret
                    exact ⟨by first | rfl | (simp [errW_none, errW_some] <;> rfl) | (simp [*, errW_none, errW_some] <;> rfl), by repeat (first | (with_reducible first | exact HB.out | apply below_alloc | apply pw_below_drewN | apply below_drew1) | exact HB.out)⟩
                  · rw [if_neg c45] at H
                    have c45b0 : decide (t127 < 0) = false := decide_eq_false c45
                    clear c45
                    by_cases c48 : t127 = t125
                    · rw [if_pos c48] at H
                      have c48b0 : (t127 == t125) = true := beq_iff_eq.mpr c48
                      have c48b1 : (t127 != t125) = false := bne_eq_false_iff_eq.mpr c48
                      clear c48
                      replace H := Option.bind_eq_some_iff.mp H
                      obtain ⟨t128, A490, H⟩ := H
                      replace H : ((impl_LeastDifference.f kj27 t128).bind fun bt131 => ((laws_eqInt64S.f kj27 bt131.1 t104).bind fun t136 => (if t136 = true then (if bt131.2.1 = t105 then (laws_FnExactLeastDifference.j2 kj27 t126 t125 (bt131.2.2 != t106)) else (laws_FnExactLeastDifference.j2 kj27 t126 t125 true)) else (laws_FnExactLeastDifference.j2 kj27 t126 t125 true)))) = some r := H
                      have A49 := Aside0.mk A490
                      clear A490
                      replace H := Option.bind_eq_some_iff.mp H
                      obtain ⟨⟨t131, t132, t133⟩, A500, H⟩ := H
                      replace H : ((laws_eqInt64S.f kj27 t131 t104).bind fun t136 => (if t136 = true then (if t132 = t105 then (laws_FnExactLeastDifference.j2 kj27 t126 t125 (t133 != t106)) else (laws_FnExactLeastDifference.j2 kj27 t126 t125 true)) else (laws_FnExactLeastDifference.j2 kj27 t126 t125 true))) = some r := H
                      have A50 := Aside0.mk A500
                      clear A500
                      have HC51 := Aside0.mk H
                      clear H
                      obtain ⟨Ao52, co52, eo52⟩ := Kd.R_slice HO_7.out
                      subst eo52
                      go_upto_region 23 with (first | ((with_reducible refine gate_callee (f := 26) rfl ?_); refine goesL_ (some 76) rfl rfl Try.func26 (by kernel_rfl) rfl #[.slice Ao52 t112.length co52, .int .i64 1] rfl (by (try simp only [List.map_toArray, List.map_cons, List.map_nil]); first | done | rfl | (simp only [List.length_drop, List.length_take]; rfl)) ?_; (with_reducible refine (laws_markInt64S.calls kj27 (fun k_ => some k_ = (.slice Ao52 t112.length co52 : Value).ownBlock) (.slice Ao52 t112.length co52) t112 1 t125 t126 w _ ?side1 ?side2 A43.out).mono ?_); (case side1 => repeat (first | (with_reducible first | exact HB.out | apply below_alloc | apply pw_below_drewN | apply below_drew1) | exact HB.out)); (case side2 => exact Kd.R_tight rfl HO_7.out); rintro e w53 ⟨rfl, hy0, hb, hkp⟩; refine ⟨_, rfl, ?_⟩; have n0_ := Aside0.mk (Kd.R_mono (ok' := fun k_ => some k_ ≠ (.slice Ao52 t112.length co52 : Value).ownBlock) (Kd.R_keptB (HO_3.out) hkp (fun k_ hk_ hs_ => (hk_) hs_)) (fun k_ hk_ => hk_.1)); have n1_ := Aside0.mk (Kd.R_reok rfl hy0 (fun k_ e_ => HO_7.out.1 k_ e_)); have n2_ := Aside0.mk (hb); clear HO_3; clear HO_7; clear HB; have HO_3 := n0_; have HO_7 := n1_; have HB := n2_; clear n0_ n1_ n2_; (try clear hb); (try clear hkp); (try clear hy0)) | ((with_reducible refine gate_callee (f := 27) rfl ?_); refine goesL_ (some 79) rfl rfl Try.func27 (by kernel_rfl) rfl #[.slice Ao52 t126.length co52, .int .i64 1] rfl (by (try simp only [List.map_toArray, List.map_cons, List.map_nil]); first | done | (rw [show t126.length = t112.length from (Kd.R_reads' HO_7.out).1.symm] <;> rfl) | rfl | (simp only [List.length_drop, List.length_take]; rfl)) ?_; (with_reducible refine (laws_heldInt64S.calls kj27 _ _ t126 1 t127 _ ?side1 ?side2 A44.out).mono ?_); (case side1 => repeat (first | exact (Kd.R_reads' HO_7.out).2.2 | (with_reducible refine Kd.C_alloc ?_ _) | (with_reducible refine Kd.C_drewN ?_ _) | (with_reducible refine Kd.C_drew ?_))); (case side2 => rw [show t126.length = t112.length from (Kd.R_reads' HO_7.out).1.symm]; exact (Kd.R_reads' HO_7.out).2.1); rintro e w' ⟨rfl, ⟨nd, rfl⟩⟩; refine ⟨_, rfl, ?_⟩) | ((with_reducible refine gate_callee (f := 23) rfl ?_); refine goesL_ (some 87) rfl rfl Try.func23 (by kernel_rfl) rfl #[.slice A0 l0.length c0] rfl (by (try simp only [List.map_toArray, List.map_cons, List.map_nil]); first | done | rfl | (simp only [List.length_drop, List.length_take]; rfl)) ?_; (with_reducible refine (laws_toInt64S.calls kj27 _ _ l0 t128 _ ?side1 ?side2 A49.out).mono ?_); (case side1 => repeat (first | exact (Kd.C_below HR0.out (by repeat (first | (with_reducible first | exact HB.out | apply below_alloc | apply pw_below_drewN | apply below_drew1) | exact HB.out))) | (with_reducible refine Kd.C_alloc ?_ _) | (with_reducible refine Kd.C_drewN ?_ _) | (with_reducible refine Kd.C_drew ?_))); (case side2 => exact HC0.out); rintro e w54 ⟨v129, rfl, ho0, hb⟩; refine ⟨_, rfl, ?_⟩; have n0_ := Aside0.mk (Kd.R_elder' (by (with_reducible repeat (first | apply Kd.R_alloc | apply Kd.R_drewN | apply Kd.R_drew)); exact HO_3.out) (Kd.R_base ho0) hb); have n1_ := Aside0.mk (Kd.R_elder' (by (with_reducible repeat (first | apply Kd.R_alloc | apply Kd.R_drewN | apply Kd.R_drew)); exact HO_7.out) (Kd.R_base ho0) hb); have n2_ := Aside0.mk (Kd.R_lower (Kd.R_new' (Kd.R_new' ho0 (Kd.R_lt (by (with_reducible repeat (first | apply Kd.R_alloc | apply Kd.R_drewN | apply Kd.R_drew)); exact HO_3.out))) (Kd.R_lt (by (with_reducible repeat (first | apply Kd.R_alloc | apply Kd.R_drewN | apply Kd.R_drew)); exact HO_7.out))) (below_size (by repeat (first | (with_reducible first | exact HB.out | apply below_alloc | apply pw_below_drewN | apply below_drew1) | exact HB.out)))); have n3_ := Aside0.mk (below_step (by repeat (first | (with_reducible first | exact HB.out | apply below_alloc | apply pw_below_drewN | apply below_drew1) | exact HB.out)) hb); clear HO_3; clear HO_7; clear HB; have HO_3 := n0_; have HO_7 := n1_; have HO130 := n2_; have HB := n3_; clear n0_ n1_ n2_ n3_; (try clear hb); (try clear hb2); (try clear hk); (try clear hi); (try clear ho0); obtain ⟨Ao55, co55, eo55⟩ := Kd.R_slice HO130.out; subst eo55) | ((with_reducible refine gate_callee (f := 29) rfl ?_); refine goesL_ (some 88) rfl rfl Try.func29 (by kernel_rfl) rfl #[.slice Ao55 t128.length co55] rfl (by (try simp only [List.map_toArray, List.map_cons, List.map_nil]); first | done | rfl | (simp only [List.length_drop, List.length_take]; rfl)) ?_; (with_reducible refine (impl_LeastDifference.calls kj27 _ _ t128 t131 t132 t133 _ ?side1 ?side2 A50.out).mono ?_); (case side1 => repeat (first | exact (Kd.R_reads' HO130.out).2.2 | (with_reducible refine Kd.C_alloc ?_ _) | (with_reducible refine Kd.C_drewN ?_ _) | (with_reducible refine Kd.C_drew ?_))); (case side2 => exact (Kd.R_reads' HO130.out).2.1); rintro e w56 ⟨v134, rfl, ho0, hb⟩; refine ⟨_, rfl, ?_⟩; have n0_ := Aside0.mk (Kd.R_elder' (by (with_reducible repeat (first | apply Kd.R_alloc | apply Kd.R_drewN | apply Kd.R_drew)); exact HO_3.out) (Kd.R_base ho0) hb); have n1_ := Aside0.mk (Kd.R_elder' (by (with_reducible repeat (first | apply Kd.R_alloc | apply Kd.R_drewN | apply Kd.R_drew)); exact HO_7.out) (Kd.R_base ho0) hb); have n2_ := Aside0.mk (Kd.R_elder' (by (with_reducible repeat (first | apply Kd.R_alloc | apply Kd.R_drewN | apply Kd.R_drew)); exact HO130.out) (Kd.R_base ho0) hb); have n3_ := Aside0.mk (Kd.R_lower (Kd.R_new' (Kd.R_new' (Kd.R_new' ho0 (Kd.R_lt (by (with_reducible repeat (first | apply Kd.R_alloc | apply Kd.R_drewN | apply Kd.R_drew)); exact HO_3.out))) (Kd.R_lt (by (with_reducible repeat (first | apply Kd.R_alloc | apply Kd.R_drewN | apply Kd.R_drew)); exact HO_7.out))) (Kd.R_lt (by (with_reducible repeat (first | apply Kd.R_alloc | apply Kd.R_drewN | apply Kd.R_drew)); exact HO130.out))) (below_size (by repeat (first | (with_reducible first | exact HB.out | apply below_alloc | apply pw_below_drewN | apply below_drew1) | exact HB.out)))); have n4_ := Aside0.mk (below_step (by repeat (first | (with_reducible first | exact HB.out | apply below_alloc | apply pw_below_drewN | apply below_drew1) | exact HB.out)) hb); clear HO_3; clear HO_7; clear HO130; clear HB; have HO_3 := n0_; have HO_7 := n1_; have HO130 := n2_; have HO135 := n3_; have HB := n4_; clear n0_ n1_ n2_ n3_ n4_; (try clear hb); (try clear hb2); (try clear hk); (try clear hi); (try clear ho0)))
                      (try simp only [Act.put, List.setIfInBounds_toArray, List.set_cons_zero, List.set_cons_succ])
                      go_cut [105] (fun v105 wc => ∃ (kq : Nat) (x105_50 : Bool), v105 = .bool x105_50 ∧ Aside0 (laws_FnExactLeastDifference.j2 kq t126 t125 x105_50 = some r) ∧ Aside0 (kq ≤ kj27) ∧ Aside0 (Kd.R (Kd.int .i64) 2 wc w.heap.size (fun _ => True) (.slice Ao52 t112.length co52) t126) ∧ Aside0 (Below w.heap.size w wc))
                      case first =>
                        have H := HC51.out
                        clear HC51
                        replace H := Option.bind_eq_some_iff.mp H
                        obtain ⟨t136, A570, H⟩ := H
                        replace H : (if t136 = true then (if t132 = t105 then (laws_FnExactLeastDifference.j2 kj27 t126 t125 (t133 != t106)) else (laws_FnExactLeastDifference.j2 kj27 t126 t125 true)) else (laws_FnExactLeastDifference.j2 kj27 t126 t125 true)) = some r := H
                        have A57 := Aside0.mk A570
                        clear A570
                        by_cases c58 : t136 = true
                        · subst c58
                          have H1 : (if t132 = t105 then (laws_FnExactLeastDifference.j2 kj27 t126 t125 (t133 != t106)) else (laws_FnExactLeastDifference.j2 kj27 t126 t125 true)) = some r := by rw [if_pos rfl] at H; exact H
                          clear H
                          have H := H1
                          clear H1
                          by_cases c59 : t132 = t105
                          · rw [if_pos c59] at H
                            have c59b0 : (t132 == t105) = true := beq_iff_eq.mpr c59
                            have c59b1 : (t132 != t105) = false := bne_eq_false_iff_eq.mpr c59
                            clear c59
                            (first | rw [c59b0] | (simp only [i64_w, i32_w]; rw [c59b0]) | skip)
                            have H' := Aside0.mk H
                            clear H
                            obtain ⟨Ao60, co60, eo60⟩ := Kd.R_slice HO135.out
                            subst eo60
                            obtain ⟨Ao61, co61, eo61⟩ := Kd.R_slice HO_3.out
                            subst eo61
                            go_wp2_with (first | ((with_reducible refine gate_callee (f := 25) rfl ?_); refine goesL_ (some 94) rfl rfl Try.func25 (by kernel_rfl) rfl #[.slice Ao60 t131.length co60, .slice Ao61 t104.length co61] rfl (by (try simp only [List.map_toArray, List.map_cons, List.map_nil]); first | done | rfl | (simp only [List.length_drop, List.length_take]; rfl)) ?_; (with_reducible refine (laws_eqInt64S.calls kj27 _ _ t131 _ _ t104 true _ ?side1 ?side2 ?side3 ?side4 A57.out).mono ?_); (case side1 => repeat (first | exact (Kd.R_reads' HO135.out).2.2 | (with_reducible refine Kd.C_alloc ?_ _) | (with_reducible refine Kd.C_drewN ?_ _) | (with_reducible refine Kd.C_drew ?_))); (case side2 => exact (Kd.R_reads' HO135.out).2.1); (case side3 => repeat (first | exact (Kd.R_reads' HO_3.out).2.2 | (with_reducible refine Kd.C_alloc ?_ _) | (with_reducible refine Kd.C_drewN ?_ _) | (with_reducible refine Kd.C_drew ?_))); (case side4 => exact (Kd.R_reads' HO_3.out).2.1); rintro e w' ⟨rfl, ⟨nd, rfl⟩⟩; refine ⟨_, rfl, ?_⟩))
                            go_meet
                            case rel => exact ⟨_, ((t133 != t106)), (by first | rfl | (simp; done) | (simp [*]; done)), H', ⟨by have := HJ6.out; have := HJ27.out; first | omega | exact Nat.le_refl _⟩, ⟨by (with_reducible repeat (first | apply Kd.R_alloc | apply Kd.R_drewN | apply Kd.R_drew)); exact Kd.R_mono HO_7.out (fun _ hk => trivial)⟩, ⟨by repeat (first | (with_reducible first | exact HB.out | apply below_alloc | apply pw_below_drewN | apply below_drew1) | exact HB.out)⟩⟩
                          · rw [if_neg c59] at H
                            have c59b0 : (t132 == t105) = false := beq_eq_false_iff_ne.mpr c59
                            have c59b1 : (t132 != t105) = true := bne_iff_ne.mpr c59
                            (first | rw [c59b0] | (simp only [i64_w, i32_w]; rw [c59b0]) | skip)
                            have H' := Aside0.mk H
                            clear H
                            obtain ⟨Ao62, co62, eo62⟩ := Kd.R_slice HO135.out
                            subst eo62
                            obtain ⟨Ao63, co63, eo63⟩ := Kd.R_slice HO_3.out
                            subst eo63
                            go_wp2_with (first | ((with_reducible refine gate_callee (f := 25) rfl ?_); refine goesL_ (some 94) rfl rfl Try.func25 (by kernel_rfl) rfl #[.slice Ao62 t131.length co62, .slice Ao63 t104.length co63] rfl (by (try simp only [List.map_toArray, List.map_cons, List.map_nil]); first | done | rfl | (simp only [List.length_drop, List.length_take]; rfl)) ?_; (with_reducible refine (laws_eqInt64S.calls kj27 _ _ t131 _ _ t104 true _ ?side1 ?side2 ?side3 ?side4 A57.out).mono ?_); (case side1 => repeat (first | exact (Kd.R_reads' HO135.out).2.2 | (with_reducible refine Kd.C_alloc ?_ _) | (with_reducible refine Kd.C_drewN ?_ _) | (with_reducible refine Kd.C_drew ?_))); (case side2 => exact (Kd.R_reads' HO135.out).2.1); (case side3 => repeat (first | exact (Kd.R_reads' HO_3.out).2.2 | (with_reducible refine Kd.C_alloc ?_ _) | (with_reducible refine Kd.C_drewN ?_ _) | (with_reducible refine Kd.C_drew ?_))); (case side4 => exact (Kd.R_reads' HO_3.out).2.1); rintro e w' ⟨rfl, ⟨nd, rfl⟩⟩; refine ⟨_, rfl, ?_⟩))
                            go_meet
                            case rel => exact ⟨_, (true), (by first | rfl | (simp; done) | (simp [*]; done)), H', ⟨by have := HJ6.out; have := HJ27.out; first | omega | exact Nat.le_refl _⟩, ⟨by (with_reducible repeat (first | apply Kd.R_alloc | apply Kd.R_drewN | apply Kd.R_drew)); exact Kd.R_mono HO_7.out (fun _ hk => trivial)⟩, ⟨by repeat (first | (with_reducible first | exact HB.out | apply below_alloc | apply pw_below_drewN | apply below_drew1) | exact HB.out)⟩⟩
                        · replace c58 := Bool.eq_false_iff.mpr c58
                          subst c58
                          have H1 : (laws_FnExactLeastDifference.j2 kj27 t126 t125 true) = some r := by rw [if_neg (show ¬ (false = true) by decide)] at H; exact H
                          clear H
                          have H := H1
                          clear H1
                          have H' := Aside0.mk H
                          clear H
                          obtain ⟨Ao64, co64, eo64⟩ := Kd.R_slice HO135.out
                          subst eo64
                          obtain ⟨Ao65, co65, eo65⟩ := Kd.R_slice HO_3.out
                          subst eo65
                          go_wp2_with (first | ((with_reducible refine gate_callee (f := 25) rfl ?_); refine goesL_ (some 94) rfl rfl Try.func25 (by kernel_rfl) rfl #[.slice Ao64 t131.length co64, .slice Ao65 t104.length co65] rfl (by (try simp only [List.map_toArray, List.map_cons, List.map_nil]); first | done | rfl | (simp only [List.length_drop, List.length_take]; rfl)) ?_; (with_reducible refine (laws_eqInt64S.calls kj27 _ _ t131 _ _ t104 false _ ?side1 ?side2 ?side3 ?side4 A57.out).mono ?_); (case side1 => repeat (first | exact (Kd.R_reads' HO135.out).2.2 | (with_reducible refine Kd.C_alloc ?_ _) | (with_reducible refine Kd.C_drewN ?_ _) | (with_reducible refine Kd.C_drew ?_))); (case side2 => exact (Kd.R_reads' HO135.out).2.1); (case side3 => repeat (first | exact (Kd.R_reads' HO_3.out).2.2 | (with_reducible refine Kd.C_alloc ?_ _) | (with_reducible refine Kd.C_drewN ?_ _) | (with_reducible refine Kd.C_drew ?_))); (case side4 => exact (Kd.R_reads' HO_3.out).2.1); rintro e w' ⟨rfl, ⟨nd, rfl⟩⟩; refine ⟨_, rfl, ?_⟩))
                          go_meet
                          case rel => exact ⟨_, (true), (by first | rfl | (simp; done) | (simp [*]; done)), H', ⟨by have := HJ6.out; have := HJ27.out; first | omega | exact Nat.le_refl _⟩, ⟨by (with_reducible repeat (first | apply Kd.R_alloc | apply Kd.R_drewN | apply Kd.R_drew)); exact Kd.R_mono HO_7.out (fun _ hk => trivial)⟩, ⟨by repeat (first | (with_reducible first | exact HB.out | apply below_alloc | apply pw_below_drewN | apply below_drew1) | exact HB.out)⟩⟩
                      case rest =>
                        clear HC51
                        try clear c1
                        try clear c2
                        try clear c2b0
                        try clear c2b1
                        try clear p2
                        try clear c3
                        try clear c4
                        try clear c5
                        try clear c6
                        try clear c15
                        try clear c16
                        try clear c16b0
                        try clear c16b1
                        try clear c23
                        try clear c25
                        try clear c26
                        try clear c27
                        try clear c28
                        try clear c29
                        try clear c32
                        try clear c32b0
                        try clear c34
                        try clear c35
                        try clear c35b0
                        try clear c35b1
                        try clear c42
                        try clear c45
                        try clear c45b0
                        try clear c48
                        try clear c48b0
                        try clear c48b1
                        try clear c58
                        try clear c59
                        try clear c59b0
                        try clear c59b1
                        try clear p2
                        obtain ⟨kq, x105_50, rfl, HA, HJ50, HO_7, HB⟩ := hcut
                        have hl7_50 := (Kd.R_reads' HO_7.out).1
                        rw [hl7_50] at HO_7
                        (try simp only [hl7_50])
                        cases kq with
                        | zero => exact absurd HA.out (by simp [laws_FnExactLeastDifference.j2])
                        | succ kj50 =>
                          have H := HA.out
                          clear HA
                          simp only [laws_FnExactLeastDifference.j2] at H
                          by_cases c66 : x105_50 = true
                          · subst c66
                            have H1 : (some false) = some r := by rw [if_pos rfl] at H; exact H
                            clear H
                            have H := H1
                            clear H1
                            obtain rfl := Option.some.inj H
                            go_wp2
                            go_ret
                            exact ⟨by first | rfl | (simp [errW_none, errW_some] <;> rfl) | (simp [*, errW_none, errW_some] <;> rfl), by repeat (first | (with_reducible first | exact HB.out | apply below_alloc | apply pw_below_drewN | apply below_drew1) | exact HB.out)⟩
                          · replace c66 := Bool.eq_false_iff.mpr c66
                            subst c66
                            have H1 : ((laws_heldInt64S.f kj50 t126 1).bind fun t137 => (if t137 < 0 then (some false) else (if t137 = t125 then (some true) else (some false)))) = some r := by rw [if_neg (show ¬ (false = true) by decide)] at H; exact H
                            clear H
                            have H := H1
                            clear H1
                            replace H := Option.bind_eq_some_iff.mp H
                            obtain ⟨t137, A670, H⟩ := H
                            replace H : (if t137 < 0 then (some false) else (if t137 = t125 then (some true) else (some false))) = some r := H
                            have A67 := Aside0.mk A670
                            clear A670
                            by_cases c68 : t137 < 0
                            · rw [if_pos c68] at H
                              have c68b0 : decide (t137 < 0) = true := decide_eq_true c68
                              clear c68
                              obtain rfl := Option.some.inj H
                              go_wp2_with (first | ((with_reducible refine gate_callee (f := 27) rfl ?_); refine goesL_ (some 108) rfl rfl Try.func27 (by kernel_rfl) rfl #[.slice Ao52 t126.length co52, .int .i64 1] rfl (by (try simp only [List.map_toArray, List.map_cons, List.map_nil]); first | done | rfl | (simp only [List.length_drop, List.length_take]; rfl)) ?_; (with_reducible refine (laws_heldInt64S.calls kj50 _ _ t126 1 t137 _ ?side1 ?side2 A67.out).mono ?_); (case side1 => repeat (first | exact (Kd.R_reads' HO_7.out).2.2 | (with_reducible refine Kd.C_alloc ?_ _) | (with_reducible refine Kd.C_drewN ?_ _) | (with_reducible refine Kd.C_drew ?_))); (case side2 => exact (Kd.R_reads' HO_7.out).2.1); rintro e w' ⟨rfl, ⟨nd, rfl⟩⟩; refine ⟨_, rfl, ?_⟩))
                              go_ret
                              exact ⟨by first | rfl | (simp [errW_none, errW_some] <;> rfl) | (simp [*, errW_none, errW_some] <;> rfl), by repeat (first | (with_reducible first | exact HB.out | apply below_alloc | apply pw_below_drewN | apply below_drew1) | exact HB.out)⟩
                            · rw [if_neg c68] at H
                              have c68b0 : decide (t137 < 0) = false := decide_eq_false c68
                              clear c68
                              by_cases c69 : t137 = t125
                              · rw [if_pos c69] at H
                                have c69b0 : (t137 == t125) = true := beq_iff_eq.mpr c69
                                have c69b1 : (t137 != t125) = false := bne_eq_false_iff_eq.mpr c69
                                clear c69
                                obtain rfl := Option.some.inj H
                                go_wp2_with (first | ((with_reducible refine gate_callee (f := 27) rfl ?_); refine goesL_ (some 108) rfl rfl Try.func27 (by kernel_rfl) rfl #[.slice Ao52 t126.length co52, .int .i64 1] rfl (by (try simp only [List.map_toArray, List.map_cons, List.map_nil]); first | done | rfl | (simp only [List.length_drop, List.length_take]; rfl)) ?_; (with_reducible refine (laws_heldInt64S.calls kj50 _ _ t126 1 t137 _ ?side1 ?side2 A67.out).mono ?_); (case side1 => repeat (first | exact (Kd.R_reads' HO_7.out).2.2 | (with_reducible refine Kd.C_alloc ?_ _) | (with_reducible refine Kd.C_drewN ?_ _) | (with_reducible refine Kd.C_drew ?_))); (case side2 => exact (Kd.R_reads' HO_7.out).2.1); rintro e w' ⟨rfl, ⟨nd, rfl⟩⟩; refine ⟨_, rfl, ?_⟩))
                                go_ret
                                exact ⟨by first | rfl | (simp [errW_none, errW_some] <;> rfl) | (simp [*, errW_none, errW_some] <;> rfl), by repeat (first | (with_reducible first | exact HB.out | apply below_alloc | apply pw_below_drewN | apply below_drew1) | exact HB.out)⟩
                              · rw [if_neg c69] at H
                                have c69b0 : (t137 == t125) = false := beq_eq_false_iff_ne.mpr c69
                                have c69b1 : (t137 != t125) = true := bne_iff_ne.mpr c69
                                obtain rfl := Option.some.inj H
                                go_wp2_with (first | ((with_reducible refine gate_callee (f := 27) rfl ?_); refine goesL_ (some 108) rfl rfl Try.func27 (by kernel_rfl) rfl #[.slice Ao52 t126.length co52, .int .i64 1] rfl (by (try simp only [List.map_toArray, List.map_cons, List.map_nil]); first | done | rfl | (simp only [List.length_drop, List.length_take]; rfl)) ?_; (with_reducible refine (laws_heldInt64S.calls kj50 _ _ t126 1 t137 _ ?side1 ?side2 A67.out).mono ?_); (case side1 => repeat (first | exact (Kd.R_reads' HO_7.out).2.2 | (with_reducible refine Kd.C_alloc ?_ _) | (with_reducible refine Kd.C_drewN ?_ _) | (with_reducible refine Kd.C_drew ?_))); (case side2 => exact (Kd.R_reads' HO_7.out).2.1); rintro e w' ⟨rfl, ⟨nd, rfl⟩⟩; refine ⟨_, rfl, ?_⟩))
                                go_ret
                                exact ⟨by first | rfl | (simp [errW_none, errW_some] <;> rfl) | (simp [*, errW_none, errW_some] <;> rfl), by repeat (first | (with_reducible first | exact HB.out | apply below_alloc | apply pw_below_drewN | apply below_drew1) | exact HB.out)⟩
                    · rw [if_neg c48] at H
                      have c48b0 : (t127 == t125) = false := beq_eq_false_iff_ne.mpr c48
                      have c48b1 : (t127 != t125) = true := bne_iff_ne.mpr c48
                      obtain rfl := Option.some.inj H
                      obtain ⟨Ao70, co70, eo70⟩ := Kd.R_slice HO_7.out
                      subst eo70
                      go_wp2_with (first | ((with_reducible refine gate_callee (f := 26) rfl ?_); refine goesL_ (some 76) rfl rfl Try.func26 (by kernel_rfl) rfl #[.slice Ao70 t112.length co70, .int .i64 1] rfl (by (try simp only [List.map_toArray, List.map_cons, List.map_nil]); first | done | rfl | (simp only [List.length_drop, List.length_take]; rfl)) ?_; (with_reducible refine (laws_markInt64S.calls kj27 (fun k_ => some k_ = (.slice Ao70 t112.length co70 : Value).ownBlock) (.slice Ao70 t112.length co70) t112 1 t125 t126 w _ ?side1 ?side2 A43.out).mono ?_); (case side1 => repeat (first | (with_reducible first | exact HB.out | apply below_alloc | apply pw_below_drewN | apply below_drew1) | exact HB.out)); (case side2 => exact Kd.R_tight rfl HO_7.out); rintro e w71 ⟨rfl, hy0, hb, hkp⟩; refine ⟨_, rfl, ?_⟩; have n0_ := Aside0.mk (Kd.R_mono (ok' := fun k_ => some k_ ≠ (.slice Ao70 t112.length co70 : Value).ownBlock) (Kd.R_keptB (HO_3.out) hkp (fun k_ hk_ hs_ => (hk_) hs_)) (fun k_ hk_ => hk_.1)); have n1_ := Aside0.mk (Kd.R_reok rfl hy0 (fun k_ e_ => HO_7.out.1 k_ e_)); have n2_ := Aside0.mk (hb); clear HO_3; clear HO_7; clear HB; have HO_3 := n0_; have HO_7 := n1_; have HB := n2_; clear n0_ n1_ n2_; (try clear hb); (try clear hkp); (try clear hy0)) | ((with_reducible refine gate_callee (f := 27) rfl ?_); refine goesL_ (some 79) rfl rfl Try.func27 (by kernel_rfl) rfl #[.slice Ao70 t126.length co70, .int .i64 1] rfl (by (try simp only [List.map_toArray, List.map_cons, List.map_nil]); first | done | (rw [show t126.length = t112.length from (Kd.R_reads' HO_7.out).1.symm] <;> rfl) | rfl | (simp only [List.length_drop, List.length_take]; rfl)) ?_; (with_reducible refine (laws_heldInt64S.calls kj27 _ _ t126 1 t127 _ ?side1 ?side2 A44.out).mono ?_); (case side1 => repeat (first | exact (Kd.R_reads' HO_7.out).2.2 | (with_reducible refine Kd.C_alloc ?_ _) | (with_reducible refine Kd.C_drewN ?_ _) | (with_reducible refine Kd.C_drew ?_))); (case side2 => rw [show t126.length = t112.length from (Kd.R_reads' HO_7.out).1.symm]; exact (Kd.R_reads' HO_7.out).2.1); rintro e w' ⟨rfl, ⟨nd, rfl⟩⟩; refine ⟨_, rfl, ?_⟩))
                      go_ret
                      exact ⟨by first | rfl | (simp [errW_none, errW_some] <;> rfl) | (simp [*, errW_none, errW_some] <;> rfl), by repeat (first | (with_reducible first | exact HB.out | apply below_alloc | apply pw_below_drewN | apply below_drew1) | exact HB.out)⟩
          · replace c26 := Bool.eq_false_iff.mpr c26
            subst c26
            have H1 : (some false) = some r := by rw [if_neg (show ¬ (false = true) by decide)] at H; exact H
            clear H
            have H := H1
            clear H1
            obtain rfl := Option.some.inj H
            go_wp2_with (first | ((with_reducible refine gate_callee (f := 23) rfl ?_); refine goesL_ (some 50) rfl rfl Try.func23 (by kernel_rfl) rfl #[.slice A0 l0.length c0] rfl (by (try simp only [List.map_toArray, List.map_cons, List.map_nil]); first | done | rfl | (simp only [List.length_drop, List.length_take]; rfl)) ?_; (with_reducible refine (laws_toInt64S.calls kj6 _ _ l0 t118 _ ?side1 ?side2 A24.out).mono ?_); (case side1 => repeat (first | exact (Kd.C_below HR0.out HB.out) | (with_reducible refine Kd.C_alloc ?_ _) | (with_reducible refine Kd.C_drewN ?_ _) | (with_reducible refine Kd.C_drew ?_))); (case side2 => exact HC0.out); rintro e w72 ⟨v119, rfl, ho0, hb⟩; refine ⟨_, rfl, ?_⟩; have n0_ := Aside0.mk (Kd.R_elder' (by (with_reducible repeat (first | apply Kd.R_alloc | apply Kd.R_drewN | apply Kd.R_drew)); exact HO_3.out) (Kd.R_base ho0) hb); have n1_ := Aside0.mk (Kd.R_elder' (by (with_reducible repeat (first | apply Kd.R_alloc | apply Kd.R_drewN | apply Kd.R_drew)); exact HO_6.out) (Kd.R_base ho0) hb); have n2_ := Aside0.mk (Kd.R_elder' (by (with_reducible repeat (first | apply Kd.R_alloc | apply Kd.R_drewN | apply Kd.R_drew)); exact HO_7.out) (Kd.R_base ho0) hb); have n3_ := Aside0.mk (Kd.R_lower (Kd.R_new' (Kd.R_new' (Kd.R_new' ho0 (Kd.R_lt (by (with_reducible repeat (first | apply Kd.R_alloc | apply Kd.R_drewN | apply Kd.R_drew)); exact HO_3.out))) (Kd.R_lt (by (with_reducible repeat (first | apply Kd.R_alloc | apply Kd.R_drewN | apply Kd.R_drew)); exact HO_6.out))) (Kd.R_lt (by (with_reducible repeat (first | apply Kd.R_alloc | apply Kd.R_drewN | apply Kd.R_drew)); exact HO_7.out))) (below_size (by repeat (first | (with_reducible first | exact HB.out | apply below_alloc | apply pw_below_drewN | apply below_drew1) | exact HB.out)))); have n4_ := Aside0.mk (below_step (by repeat (first | (with_reducible first | exact HB.out | apply below_alloc | apply pw_below_drewN | apply below_drew1) | exact HB.out)) hb); clear HO_3; clear HO_6; clear HO_7; clear HB; have HO_3 := n0_; have HO_6 := n1_; have HO_7 := n2_; have HO120 := n3_; have HB := n4_; clear n0_ n1_ n2_ n3_ n4_; (try clear hb); (try clear hb2); (try clear hk); (try clear hi); (try clear ho0); obtain ⟨Ao73, co73, eo73⟩ := Kd.R_slice HO120.out; subst eo73) | ((with_reducible refine gate_callee (f := 25) rfl ?_); refine goesL_ (some 51) rfl rfl Try.func25 (by kernel_rfl) rfl #[.slice Ao12 t109.length co12, .slice Ao73 t118.length co73] rfl (by (try simp only [List.map_toArray, List.map_cons, List.map_nil]); first | done | rfl | (simp only [List.length_drop, List.length_take]; rfl)) ?_; (with_reducible refine (laws_eqInt64S.calls kj6 _ _ t109 _ _ t118 false _ ?side1 ?side2 ?side3 ?side4 A25.out).mono ?_); (case side1 => repeat (first | exact (Kd.R_reads' HO_6.out).2.2 | (with_reducible refine Kd.C_alloc ?_ _) | (with_reducible refine Kd.C_drewN ?_ _) | (with_reducible refine Kd.C_drew ?_))); (case side2 => exact (Kd.R_reads' HO_6.out).2.1); (case side3 => repeat (first | exact (Kd.R_reads' HO120.out).2.2 | (with_reducible refine Kd.C_alloc ?_ _) | (with_reducible refine Kd.C_drewN ?_ _) | (with_reducible refine Kd.C_drew ?_))); (case side4 => exact (Kd.R_reads' HO120.out).2.1); rintro e w' ⟨rfl, ⟨nd, rfl⟩⟩; refine ⟨_, rfl, ?_⟩))
            go_ret
            exact ⟨by first | rfl | (simp [errW_none, errW_some] <;> rfl) | (simp [*, errW_none, errW_some] <;> rfl), by repeat (first | (with_reducible first | exact HB.out | apply below_alloc | apply pw_below_drewN | apply below_drew1) | exact HB.out)⟩

/-- THE ONE PURE STATEMENT of laws_FnExactLeastDifference: yours. -/
def laws_FnExactLeastDifference.Pure : Prop := ∀ (l0 : List Int), l0.length ≤ maxLen → l0.length * 8 ≤ 140737488351232 → (∀ x ∈ l0, (Lit.int .i64 x).wf = true) → ∃ k, laws_FnExactLeastDifference.f k l0 = some true
theorem laws_FnExactLeastDifference.walk (P : laws_FnExactLeastDifference.Pure) (a0 : Option Addr) (len0 cap0 : Nat) (z0 : List Int) (w : World) (w0 : (a0 = none ∧ len0 = 0 ∧ cap0 = 0 ∧ z0 = []) ∨ ∃ x, a0 = some x ∧ len0 ≤ cap0 ∧ cap0 ≤ maxLen ∧ z0.length = cap0 ∧ (∀ i, i < z0.length → w.cell? (x.add i) = some (.int .i64 (z0.getD i 0))) ∧ ∀ n ∈ z0, (Lit.int .i64 n).wf = true) (y0 : len0 * 8 ≤ 140737488351232) :
    Calls Try.prog 6 #[.slice a0 len0 cap0] w fun e w' => e = .returned (.bool true) ∧ Below w.heap.size w w' := by
  obtain ⟨l0, rfl, hr0, hm0, hw0, hc0⟩ := ReadsInt.ofRowC w0
  obtain ⟨k, h⟩ := P l0 hm0 y0 hw0
  refine (laws_FnExactLeastDifference.calls k _ _ l0 true w (Kd.C_of_reads (d := (0 : Int)) (h1 := fun _ => rfl) hr0) hc0 h).mono ?_
  rintro e w' ⟨rfl, hd⟩
  exact ⟨rfl, hd⟩

end Go.Proofs.Ythcccgeeccjfiaa.P

namespace Go.Proofs.Ythcccgeeccjfiaa.Pure
open Go.RowKit Go.Proofs.Ythcccgeeccjfiaa.P Go.Proofs.YthcccgeeccjfiaaW.PrintWords Go.Proofs.YthcccgeeccjfiaaW.PrintLast Go.Proofs.YthcccgeeccjfiaaW.PrintMore
set_option linter.unusedVariables false
set_option linter.unusedSimpArgs false
theorem ev_pos {α : Type} {c : Prop} [Decidable c] {A B : Nat → Option α} {r : α} (h : c) (e : Ev A r) : Ev (fun n => if c then A n else B n) r := Ev.congr (fun n => if_pos h) e
theorem ev_neg {α : Type} {c : Prop} [Decidable c] {A B : Nat → Option α} {r : α} (h : ¬ c) (e : Ev B r) : Ev (fun n => if c then A n else B n) r := Ev.congr (fun n => if_neg h) e
theorem ev_now {α : Type} (r : α) : Ev (fun _ => some r) r := Ev.now r
theorem ev_is {α : Type} {g : Option α} {r : α} (h : g = some r) : Ev (fun _ => g) r := by subst h; exact Ev.now r
theorem ev_bind {α β : Type} {g : Nat → Option α} {f : Nat → α → Option β} {a : α} {r : β} (h : Ev g a) (k : Ev (fun n => f n a) r) : Ev (fun n => (g n).bind (f n)) r := Ev.bind h k
theorem ev_fix {α β : Type} {g : Option α} {f : Nat → α → Option β} {a : α} {r : β} (h : g = some a) (k : Ev (fun n => f n a) r) : Ev (fun n => g.bind (f n)) r := by subst h; exact k
theorem ev_rounds {α : Type} {g : Nat → Option α} {r : α} (h : Ev g r) : ∃ k, g k = some r := h.rounds
theorem ev_eq {α : Type} {g : Nat → Option α} {r r' : α} (h : Ev g r) (e : r = r') : Ev g r' := e ▸ h
theorem wrap_id {x : Int} (h1 : -9223372036854775808 ≤ x) (h2 : x ≤ 9223372036854775807) : wrap64 x = x := by unfold wrap64; omega
theorem wrap_succ {n : Nat} (h : n + 1 ≤ 9223372036854775807) : wrap64 ((n : Int) + 1) = ((n + 1 : Nat) : Int) := by rw [wrap_id (by omega) (by omega)]; omega
theorem rd_nat {l : List Int} {n : Nat} (h : n < l.length) : rd l (n : Int) = l[n] := by simp [rd, h]
theorem wrap_nat {n : Nat} (h : n ≤ 9223372036854775807) : wrap64 (n : Int) = n := wrap_id (by omega) (by omega)
end Go.Proofs.Ythcccgeeccjfiaa.Pure

namespace Go.Proofs.Ythcccgeeccjfiaa.Pure
open Go.RowKit Go.Proofs.Ythcccgeeccjfiaa.P Go.Proofs.YthcccgeeccjfiaaW.PrintWords Go.Proofs.YthcccgeeccjfiaaW.PrintLast Go.Proofs.YthcccgeeccjfiaaW.PrintMore
set_option linter.unusedVariables false
set_option linter.unusedSimpArgs false
theorem rd_set {l : List Int} {b i : Nat} {x : Int} (hb : b < l.length) : rd (l.set b x) (i : Nat) = if i = b then x else rd l (i : Nat) := by
  simp only [rd, Int.toNat_natCast, List.getD_eq_getElem?_getD, List.getElem?_set]
  by_cases h : b = i
  · subst h; simp [hb]
  · rw [if_neg h, if_neg (fun e => h e.symm)]
end Go.Proofs.Ythcccgeeccjfiaa.Pure

namespace Go.Proofs.Ythcccgeeccjfiaa.Pure
open Go.RowKit Go.Proofs.Ythcccgeeccjfiaa.P Go.Proofs.YthcccgeeccjfiaaW.PrintWords Go.Proofs.YthcccgeeccjfiaaW.PrintLast Go.Proofs.YthcccgeeccjfiaaW.PrintMore
set_option linter.unusedVariables false
set_option linter.unusedSimpArgs false
theorem l01In_f (n lo hi : Int) : spec_l01In.f n lo hi = some (decide (lo ≤ n ∧ n ≤ hi)) := by
  unfold spec_l01In.f
  by_cases h : n ≥ lo
  · rw [if_pos h]; simp [show lo ≤ n from h]
  · rw [if_neg h]; simp [show ¬ lo ≤ n from h]
theorem all_take_succ {α : Type} (p : α → Bool) (l : List α) (n : Nat) (h : n < l.length) : (l.take (n + 1)).all p = ((l.take n).all p && p l[n]) := by
  rw [List.take_succ_eq_append_getElem h, List.all_append]; simp
theorem all_false_at {α : Type} (p : α → Bool) (l : List α) (n : Nat) (h : n < l.length) (hp : p l[n] = false) : l.all p = false := by
  rw [Bool.eq_false_iff]
  intro ha
  rw [List.all_eq_true] at ha
  rw [ha _ (List.getElem_mem h)] at hp
  cases hp
end Go.Proofs.Ythcccgeeccjfiaa.Pure

namespace Go.Proofs.Ythcccgeeccjfiaa.Pure
set_option linter.unusedVariables false
set_option linter.unusedSimpArgs false
-- PLAIN
/-- the sum of a list -/
def tot : List Int → Int
  | [] => 0
  | x :: l => x + tot l
theorem tot_append (a b : List Int) : tot (a ++ b) = tot a + tot b := by
  induction a with
  | nil => simp [tot]
  | cons x a ih => simp only [List.cons_append, tot, ih]; omega
theorem tot_take_succ (l : List Int) (n : Nat) (h : n < l.length) : tot (l.take (n + 1)) = tot (l.take n) + l[n] := by
  rw [List.take_succ_eq_append_getElem h, tot_append]; simp [tot]
theorem tot_bounds (lo hi : Int) (l : List Int) (h : ∀ x ∈ l, lo ≤ x ∧ x ≤ hi) : lo * l.length ≤ tot l ∧ tot l ≤ hi * l.length := by
  induction l with
  | nil => simp [tot]
  | cons x l ih =>
    have h1 := ih (fun y hy => h y (List.mem_cons_of_mem _ hy))
    have h2 := h x List.mem_cons_self
    simp only [tot, List.length_cons]
    rw [show ((l.length + 1 : Nat) : Int) = (l.length : Int) + 1 by omega, Int.mul_add, Int.mul_add, Int.mul_one, Int.mul_one]
    omega
theorem mem_of_mem_take {α : Type} {l : List α} {n : Nat} {x : α} (h : x ∈ l.take n) : x ∈ l := List.mem_of_mem_take h
end Go.Proofs.Ythcccgeeccjfiaa.Pure

namespace Go.Proofs.Ythcccgeeccjfiaa.Pure
open Go.RowKit Go.Proofs.Ythcccgeeccjfiaa.P Go.Proofs.YthcccgeeccjfiaaW.PrintWords Go.Proofs.YthcccgeeccjfiaaW.PrintLast Go.Proofs.YthcccgeeccjfiaaW.PrintMore
set_option linter.unusedVariables false
set_option linter.unusedSimpArgs false
/-- 1 to 8 shares in 1..60, of at most 60 in all -/
def isShares (l : List Int) : Bool := decide (1 ≤ (l.length : Int) ∧ (l.length : Int) ≤ 8) && (l.all (fun g => decide (1 ≤ g ∧ g ≤ 60)) && decide (tot l ≤ 60))
theorem isShares_iff (l : List Int) : isShares l = true ↔ (1 ≤ l.length ∧ l.length ≤ 8) ∧ (∀ x ∈ l, 1 ≤ x ∧ x ≤ 60) ∧ tot l ≤ 60 := by
  unfold isShares
  rw [Bool.and_eq_true, Bool.and_eq_true, List.all_eq_true, decide_eq_true_iff, decide_eq_true_iff]
  simp only [decide_eq_true_iff]
  constructor
  · rintro ⟨h1, h2, h3⟩; exact ⟨by omega, h2, h3⟩
  · rintro ⟨h1, h2, h3⟩; exact ⟨by omega, h2, h3⟩
theorem isShares_pos {l : List Int} (h : isShares l = true) : 1 ≤ tot l ∧ tot l ≤ 60 := by
  have h1 := (isShares_iff l).1 h
  have h2 := tot_bounds 1 60 l h1.2.1
  omega
theorem l07Sum_l0 (l : List Int) (hl : l.length ≤ 1048576) : ∀ d n : Nat, n + d = l.length → (∀ x ∈ l.take n, 1 ≤ x ∧ x ≤ 60) → Ev (fun k => spec_l07Sum.l0 k l (tot (l.take n)) (n : Int)) (if isShares l = true then tot l else 0) := by
  intro d
  induction d with
  | zero =>
    intro n hn ha
    have hb := tot_bounds 1 60 _ ha
    rw [List.take_of_length_le (by omega)] at ha hb ⊢
    refine Ev.step (fun k => by rw [spec_l07Sum.l0]) (ev_neg (by omega) ?_)
    by_cases h8 : (l.length : Int) > 8
    · refine ev_pos h8 (ev_is ?_)
      rw [if_neg (fun h => by have := ((isShares_iff l).1 h).1; omega)]
    · refine ev_neg h8 ?_
      by_cases h60 : tot l > 60
      · refine ev_pos h60 (ev_is ?_)
        rw [if_neg (fun h => by have := ((isShares_iff l).1 h).2.2; omega)]
      · refine ev_neg h60 (ev_is ?_)
        by_cases h : isShares l = true
        · rw [if_pos h]
        · rw [if_neg h]
          rw [isShares_iff] at h
          have h0 : l.length = 0 := by
            rcases Nat.eq_zero_or_pos l.length with h0 | h0
            · exact h0
            · exact absurd ⟨by omega, ha, by omega⟩ h
          rw [List.eq_nil_of_length_eq_zero h0]
          rfl
  | succ d ih =>
    intro n hn ha
    have hlt : n < l.length := by omega
    have hb := tot_bounds 1 60 _ ha
    rw [List.length_take, Nat.min_eq_left (by omega)] at hb
    refine Ev.step (fun k => by rw [spec_l07Sum.l0]) (ev_pos (by omega) (ev_pos (by omega) (ev_fix (l01In_f _ _ _) ?_)))
    rw [rd_nat hlt]
    by_cases hq : 1 ≤ l[n] ∧ l[n] ≤ 60
    · rw [decide_eq_true hq]
      refine ev_pos rfl ?_
      rw [wrap_succ (by omega), wrap_id (by omega) (by omega), ← tot_take_succ l n hlt]
      refine ih (n + 1) (by omega) ?_
      rw [List.take_succ_eq_append_getElem hlt]
      intro y hy
      rcases List.mem_append.1 hy with hy | hy
      · exact ha y hy
      · rw [List.mem_singleton.1 hy]; exact hq
    · rw [decide_eq_false hq]
      refine ev_neg (by simp) (ev_is ?_)
      rw [if_neg (fun h => hq (((isShares_iff l).1 h).2.1 _ (List.getElem_mem hlt)))]
theorem l07Sum_ev (l : List Int) (hl : l.length ≤ 1048576) : Ev (fun k => spec_l07Sum.f k l) (if isShares l = true then tot l else 0) := by
  unfold spec_l07Sum.f
  exact l07Sum_l0 l hl l.length 0 (by omega) (by simp)
theorem total_l0 (l : List Int) (hl : l.length ≤ 1048576) (hb : ∀ x ∈ l, -1000000 ≤ x ∧ x ≤ 1000000) : ∀ d n : Nat, n + d = l.length → Ev (fun k => impl_total.l0 k (tot (l.take n)) l (l.length : Int) (n : Int)) (tot l) := by
  intro d
  induction d with
  | zero =>
    intro n hn
    rw [List.take_of_length_le (by omega)]
    exact Ev.step (fun k => by rw [impl_total.l0]) (ev_neg (by omega) (ev_now _))
  | succ d ih =>
    intro n hn
    have hlt : n < l.length := by omega
    have h1 := tot_bounds (-1000000) 1000000 (l.take n) (fun x hx => hb x (List.mem_of_mem_take hx))
    rw [List.length_take, Nat.min_eq_left (by omega)] at h1
    have h2 := hb _ (List.getElem_mem hlt)
    refine Ev.step (fun k => by rw [impl_total.l0]) (ev_pos (by omega) (ev_pos (by omega) (ev_pos (by omega) ?_)))
    rw [rd_nat hlt, wrap_succ (by omega), wrap_id (by omega) (by omega), ← tot_take_succ l n hlt]
    exact ih (n + 1) (by omega)
theorem total_ev (l : List Int) (hl : l.length ≤ 1048576) (hb : ∀ x ∈ l, -1000000 ≤ x ∧ x ≤ 1000000) : Ev (fun k => impl_total.f k l) (tot l) := by
  unfold impl_total.f
  exact total_l0 l hl hb l.length 0 (by omega)
theorem areShares_ev (l : List Int) (hl : l.length ≤ 1048576) : Ev (fun k => impl_areShares.f k l) (isShares l) := by
  unfold impl_areShares.f
  by_cases h : (1 ≤ (l.length : Int) ∧ (l.length : Int) ≤ 8) ∧ l.all (fun g => decide (1 ≤ g ∧ g ≤ 60)) = true
  · refine ev_pos h ?_
    have h2 : ∀ x ∈ l, 1 ≤ x ∧ x ≤ 60 := fun x hx => of_decide_eq_true (List.all_eq_true.1 h.2 x hx)
    refine ev_bind (total_ev l hl (fun x hx => by have := h2 x hx; omega)) (ev_is ?_)
    rw [isShares, decide_eq_true h.1, h.2, Bool.true_and, Bool.true_and]
  · refine ev_neg h (ev_is ?_)
    have : isShares l ≠ true := fun hs => h ⟨by have := ((isShares_iff l).1 hs).1; omega, List.all_eq_true.2 fun x hx => decide_eq_true (((isShares_iff l).1 hs).2.1 x hx)⟩
    simpa using this
end Go.Proofs.Ythcccgeeccjfiaa.Pure

namespace Go.Proofs.Ythcccgeeccjfiaa.Pure
open Go.RowKit Go.Proofs.Ythcccgeeccjfiaa.P Go.Proofs.YthcccgeeccjfiaaW.PrintWords Go.Proofs.YthcccgeeccjfiaaW.PrintLast Go.Proofs.YthcccgeeccjfiaaW.PrintMore
set_option linter.unusedVariables false
set_option linter.unusedSimpArgs false
def dElig (shares given : List Int) (all b n : Int) (i : Nat) : Bool := decide (rd given i + 1 ≤ rd shares i) && decide (all * (rd given i + 1) - n * rd shares i ≤ b)
def dOwn (shares given : List Int) (all b : Int) (i : Nat) : Int := mn ((b + all * rd given i) / rd shares i + 1) all
/-- the task with the least last slot among the first j that may have the slot, and that slot (from 1 on) -/
def dPick (elig : Nat → Bool) (own : Nat → Int) : Nat → Int × Int
  | 0 => (-1, 0)
  | j + 1 => if elig j = true then (if (dPick elig own j).1 < 0 ∨ own j < (dPick elig own j).2 then ((j : Int), own j) else dPick elig own j) else dPick elig own j
theorem dPick_range (elig : Nat → Bool) (own : Nat → Int) : ∀ j : Nat, (dPick elig own j).1 = -1 ∨ ∃ i : Nat, i < j ∧ (dPick elig own j).1 = i ∧ (dPick elig own j).2 = own i ∧ elig i = true := by
  intro j
  induction j with
  | zero => exact .inl rfl
  | succ j ih =>
    rw [dPick]
    have hold : (dPick elig own j).1 = -1 ∨ ∃ i : Nat, i < j + 1 ∧ (dPick elig own j).1 = i ∧ (dPick elig own j).2 = own i ∧ elig i = true := by
      rcases ih with h | ⟨i, hi, h⟩
      · exact .inl h
      · exact .inr ⟨i, by omega, h⟩
    split
    · rename_i he
      split
      · exact .inr ⟨j, by omega, rfl, rfl, he⟩
      · exact hold
    · exact hold
def deadGo (shares : List Int) (all b : Int) : Nat → List Int → List Int → Int → List Int × Bool
  | 0, _, out, _ => (out, true)
  | d + 1, given, out, n =>
    if (dPick (dElig shares given all b n) (dOwn shares given all b) shares.length).1 < 0 ∨ (dPick (dElig shares given all b n) (dOwn shares given all b) shares.length).2 < n then ([], false)
    else deadGo shares all b d (given.set (dPick (dElig shares given all b n) (dOwn shares given all b) shares.length).1.toNat (rd given (dPick (dElig shares given all b n) (dOwn shares given all b) shares.length).1 + 1)) (out ++ [(dPick (dElig shares given all b n) (dOwn shares given all b) shares.length).1]) (n + 1)
/-- the deadline turns of shares for a number -/
def dead (shares : List Int) (b : Int) : List Int × Bool := deadGo shares (tot shares) b (tot shares).toNat (List.replicate shares.length 0) [] 1
theorem deadGo_length (shares : List Int) (all b : Int) : ∀ d given out n, (deadGo shares all b d given out n).1.length ≤ out.length + d := by
  intro d
  induction d with
  | zero => intro given out n; exact Nat.le_refl _
  | succ d ih =>
    intro given out n
    rw [deadGo]
    split
    · simp
    · refine Nat.le_trans (ih _ _ _) ?_
      rw [List.length_append, List.length_singleton]; omega
structure DInv (shares given : List Int) : Prop where
  len : given.length = shares.length
  bnd : ∀ i : Nat, i < shares.length → 0 ≤ rd given i ∧ rd given i ≤ rd shares i
theorem DInv.start {shares : List Int} (h : isShares shares = true) : DInv shares (List.replicate shares.length 0) := by
  refine ⟨by simp, fun i hi => ?_⟩
  have h1 := ((isShares_iff shares).1 h).2.1 _ (List.getElem_mem hi)
  rw [← rd_nat hi] at h1
  have h2 : rd (List.replicate shares.length 0) (i : Int) = 0 := by simp [rd, List.getElem?_replicate, hi]
  omega
theorem DInv.next {shares given : List Int} (h : DInv shares given) {i : Nat} (hi : i < shares.length) (he : rd given i + 1 ≤ rd shares i) : DInv shares (given.set i (rd given i + 1)) := by
  refine ⟨by rw [List.length_set]; exact h.len, fun j hj => ?_⟩
  rw [rd_set (by rw [h.len]; exact hi)]
  have h1 := h.bnd j hj
  have h2 := h.bnd i hi
  by_cases e : j = i
  · subst e; rw [if_pos rfl]; omega
  · rw [if_neg e]; exact h1
structure DBnd (shares given : List Int) (all b n : Int) : Prop where
  sh : isShares shares = true
  al : all = tot shares
  inv : DInv shares given
  b0 : 0 ≤ b ∧ b ≤ 10000
  n0 : 1 ≤ n ∧ n ≤ all
theorem DBnd.facts {shares given : List Int} {all b n : Int} (h : DBnd shares given all b n) (j : Nat) (hj : j < shares.length) :
    (1 ≤ all ∧ all ≤ 60) ∧ (0 ≤ rd given j ∧ rd given j ≤ 60) ∧ (1 ≤ rd shares j ∧ rd shares j ≤ 60) ∧ (1 ≤ n ∧ n ≤ 60) ∧ (0 ≤ b ∧ b ≤ 10000) := by
  have h1 := isShares_pos h.sh
  have h2 := h.inv.bnd j hj
  have h3 := ((isShares_iff shares).1 h.sh).2.1 _ (List.getElem_mem hj)
  rw [← rd_nat hj] at h3
  have h4 := h.al; have h5 := h.n0; have h6 := h.b0
  omega
theorem elig_false {shares given : List Int} {all b n : Int} {j : Nat} (h : ¬ rd given j + 1 ≤ rd shares j) : dElig shares given all b n j = false := by simp [dElig, h]
theorem elig_second {shares given : List Int} {all b n : Int} {j : Nat} (h : rd given j + 1 ≤ rd shares j) : dElig shares given all b n j = decide (all * (rd given j + 1) - n * rd shares j ≤ b) := by simp [dElig, h]
theorem gt_flip {x b : Int} : decide (x > b) = !decide (x ≤ b) := by
  by_cases h : x ≤ b
  · rw [decide_eq_true h, decide_eq_false (by omega)]; rfl
  · rw [decide_eq_false h, decide_eq_true (by omega)]; rfl
theorem mul60 {a b A B : Int} (ha : 0 ≤ a ∧ a ≤ A) (hb : 0 ≤ b ∧ b ≤ B) : 0 ≤ a * b ∧ a * b ≤ A * B := by
  refine ⟨Int.mul_nonneg ha.1 hb.1, ?_⟩
  exact Int.le_trans (Int.mul_le_mul_of_nonneg_right ha.2 hb.1) (Int.mul_le_mul_of_nonneg_left hb.2 (by omega))
theorem own_spec {all b s g : Int} (ha : 1 ≤ all ∧ all ≤ 60) (hb : 0 ≤ b ∧ b ≤ 10000) (hs : 1 ≤ s ∧ s ≤ 60) (hg : 0 ≤ g ∧ g ≤ 60) :
    mn (wrap64 ((wrap64 (Int.tdiv (wrap64 (b + (wrap64 (all * (wrap64 (wrap64 (g + 1) - 1)))))) s)) + 1)) all = mn ((b + all * g) / s + 1) all := by
  have h1 := mul60 (a := all) (b := g) (A := 60) (B := 60) (by omega) hg
  have h2 : 0 ≤ (b + all * g) / s := Int.ediv_nonneg (by omega) (by omega)
  have h3 : (b + all * g) / s ≤ b + all * g := Int.ediv_le_self _ (by omega)
  rw [wrap_id (x := g + 1) (by omega) (by omega), show g + 1 - 1 = g by omega, wrap_id (x := g) (by omega) (by omega), wrap_id (x := all * g) (by omega) (by omega), wrap_id (x := b + all * g) (by omega) (by omega), Int.tdiv_eq_ediv_of_nonneg (by omega), wrap_id (x := (b + all * g) / s) (by omega) (by omega), wrap_id (by omega) (by omega)]
/-- the continuation behind the tasks of a slot, of the reference -/
theorem Dead_spec_l1 (shares given out : List Int) (all b n : Int) (hG : DBnd shares given all b n) (hout : out.length < 17592186044416) (R : List Int × Bool)
    (hR : Ev (fun k => spec_l07Deadline.l1 k shares all b out given n (dPick (dElig shares given all b n) (dOwn shares given all b) shares.length).1 (dPick (dElig shares given all b n) (dOwn shares given all b) shares.length).2 (shares.length : Int) (shares.length : Int)) R) :
    ∀ d j : Nat, j + d = shares.length → Ev (fun k => spec_l07Deadline.l1 k shares all b out given n (dPick (dElig shares given all b n) (dOwn shares given all b) j).1 (dPick (dElig shares given all b n) (dOwn shares given all b) j).2 (shares.length : Int) (j : Int)) R := by
  have hlen := hG.inv.len
  have hpos := ((isShares_iff shares).1 hG.sh).1
  intro d
  induction d with
  | zero =>
    intro j hj
    obtain rfl : j = shares.length := by omega
    exact hR
  | succ d ih =>
    intro j hj
    have hlt : j < shares.length := by omega
    have ⟨f1, f2, f3, f4, f5⟩ := hG.facts j hlt
    have h5 := mul60 (a := all) (b := rd given j + 1) (A := 60) (B := 61) (by omega) (by omega)
    have h6 := mul60 (a := n) (b := rd shares j) (A := 60) (B := 60) (by omega) (by omega)
    have hih := ih (j + 1) (by omega)
    rw [dPick] at hih
    generalize dPick (dElig shares given all b n) (dOwn shares given all b) j = p at hih ⊢
    refine Ev.step (fun k => by rw [spec_l07Deadline.l1]) ?_
    refine ev_pos (by omega) (ev_pos (by omega) (ev_pos (by omega) (ev_pos (by omega) ?_)))
    rw [wrap_id (x := rd given j + 1) (by omega) (by omega)]
    have hskip : dElig shares given all b n j = false → Ev (fun k => spec_l07Deadline.j2 k shares all b out given n p.1 p.2 (j : Int) (rd given j + 1) (shares.length : Int) (j : Int) true) R := by
      intro he
      rw [he, if_neg (by simp)] at hih
      refine Ev.step (fun k => by rw [spec_l07Deadline.j2]) ?_
      refine ev_pos rfl ?_
      rw [wrap_succ (by omega)]
      exact hih
    by_cases c1 : rd given j + 1 > rd shares j
    · exact ev_pos c1 (hskip (elig_false (by omega)))
    · refine ev_neg c1 ?_
      rw [wrap_id (x := all * (rd given j + 1)) (by omega) (by omega), wrap_id (x := n * rd shares j) (by omega) (by omega), wrap_id (x := _ - _) (by omega) (by omega), gt_flip, ← elig_second (n := n) (b := b) (all := all) (by omega)]
      cases he : dElig shares given all b n j with
      | false => exact hskip he
      | true =>
        rw [he, if_pos rfl] at hih
        refine Ev.step (fun k => by rw [spec_l07Deadline.j2]) ?_
        refine ev_neg (by simp) (ev_pos (by omega) (ev_pos (by omega) (ev_neg (by omega) ?_)))
        have ho := own_spec f1 f5 f3 f2
        rw [wrap_id (x := rd given j + 1) (by omega) (by omega)] at ho
        rw [ho, wrap_succ (by omega)]
        by_cases c2 : p.1 < 0
        · rw [if_pos (.inl c2)] at hih
          exact ev_pos c2 hih
        · refine ev_neg c2 ?_
          by_cases c3 : dOwn shares given all b j < p.2
          · rw [if_pos (.inr c3)] at hih
            exact ev_pos c3 hih
          · rw [if_neg (fun h => h.elim c2 c3)] at hih
            exact ev_neg c3 hih
theorem Dead_spec_l0 (shares : List Int) (hs : isShares shares = true) (b : Int) (hb : 0 ≤ b ∧ b ≤ 10000) : ∀ (d : Nat) (given out : List Int) (n : Int), n + d = tot shares + 1 → 1 ≤ n → out.length = n - 1 → DInv shares given →
    Ev (fun k => spec_l07Deadline.l0 k shares (tot shares) b out given n) (deadGo shares (tot shares) b d given out n) := by
  have ht := isShares_pos hs
  have hpos := ((isShares_iff shares).1 hs).1
  intro d
  induction d with
  | zero =>
    intro given out n hn h0 ho hi
    show Ev _ (out, true)
    refine Ev.step (fun k => by rw [spec_l07Deadline.l0]) ?_
    exact ev_neg (by omega) (ev_now _)
  | succ d ih =>
    intro given out n hn h0 ho hi
    have hG : DBnd shares given (tot shares) b n := ⟨hs, rfl, hi, hb, by omega⟩
    refine Ev.step (fun k => by rw [spec_l07Deadline.l0]) ?_
    refine ev_pos (by omega) (Dead_spec_l1 shares given out (tot shares) b n hG (by omega) _ ?_ shares.length 0 (by omega))
    have hr := dPick_range (dElig shares given (tot shares) b n) (dOwn shares given (tot shares) b) shares.length
    rw [deadGo]
    generalize dPick (dElig shares given (tot shares) b n) (dOwn shares given (tot shares) b) shares.length = p at hr ⊢
    refine Ev.step (fun k => by rw [spec_l07Deadline.l1]) ?_
    refine ev_neg (by omega) ?_
    rcases hr with hr | ⟨i, hi1, hr, hr2, he⟩
    · rw [if_pos (.inl (by omega))]
      exact ev_pos (by omega) (ev_now _)
    · refine ev_neg (by omega) ?_
      by_cases c : p.2 < n
      · rw [if_pos (.inr c)]
        exact ev_pos c (ev_now _)
      · rw [if_neg (by omega)]
        have hf := hG.facts i hi1
        simp only [dElig, Bool.and_eq_true, decide_eq_true_iff] at he
        refine ev_neg c (ev_pos (by omega) (ev_pos (by rw [hi.len]; omega) (ev_pos (by omega) ?_)))
        rw [hr, wrap_id (x := n + 1) (by omega) (by omega), wrap_id (x := rd given i + 1) (by omega) (by omega), Int.toNat_natCast]
        exact ih _ _ (n + 1) (by omega) (by omega) (by rw [List.length_append, List.length_singleton]; omega) (hi.next hi1 he.1)
theorem l07Deadline_ev (shares : List Int) (hs : isShares shares = true) (b : Int) (hb : 0 ≤ b ∧ b ≤ 10000) : Ev (fun k => spec_l07Deadline.f k shares (tot shares) b) (dead shares b) := by
  unfold spec_l07Deadline.f dead
  have hpos := ((isShares_iff shares).1 hs).1
  have ht := isShares_pos hs
  refine ev_pos (by omega) (ev_pos (by omega) ?_)
  rw [Int.toNat_natCast]
  exact Dead_spec_l0 shares hs b hb _ _ [] 1 (by omega) (by omega) (by simp) (DInv.start hs)
end Go.Proofs.Ythcccgeeccjfiaa.Pure

namespace Go.Proofs.Ythcccgeeccjfiaa.Pure
open Go.RowKit Go.Proofs.Ythcccgeeccjfiaa.P Go.Proofs.YthcccgeeccjfiaaW.PrintWords Go.Proofs.YthcccgeeccjfiaaW.PrintLast Go.Proofs.YthcccgeeccjfiaaW.PrintMore
set_option linter.unusedVariables false
set_option linter.unusedSimpArgs false
theorem tot_mono : ∀ (a b : List Int), a.length = b.length → (∀ i : Nat, i < a.length → rd b i ≤ rd a i) → tot b ≤ tot a := by
  intro a
  induction a with
  | nil => intro b h _; obtain rfl : b = [] := List.eq_nil_of_length_eq_zero (by simpa using h.symm); exact Int.le_refl _
  | cons x a ih =>
    intro b h hr
    match b, h with
    | y :: b, h =>
      have h1 := ih b (by simpa using h) (fun i hi => by
        have := hr (i + 1) (by simpa using hi)
        simpa [rd] using this)
      have h2 := hr 0 (by simp)
      simp only [tot]
      have h3 : y ≤ x := by simpa [rd] using h2
      omega
theorem tot_set (l : List Int) (i : Nat) (h : i < l.length) (x : Int) : tot (l.set i x) = tot l - rd l i + x := by
  induction l generalizing i with
  | nil => simp at h
  | cons y l ih =>
    cases i with
    | zero => simp [tot, rd]; omega
    | succ i =>
      have h1 := ih i (by simpa using h)
      have h2 : rd (y :: l) ((i + 1 : Nat) : Int) = rd l (i : Int) := by simp [rd]
      rw [List.set_cons_succ, tot, tot, h1, h2]
      omega
theorem dPick_some (elig : Nat → Bool) (own : Nat → Int) : ∀ j : Nat, (∃ i, i < j ∧ elig i = true) → 0 ≤ (dPick elig own j).1 := by
  intro j
  induction j with
  | zero => rintro ⟨i, h, _⟩; omega
  | succ j ih =>
    rintro ⟨i, hi, he⟩
    rw [dPick]
    by_cases hj : elig j = true
    · rw [if_pos hj]
      by_cases c : (dPick elig own j).1 < 0 ∨ own j < (dPick elig own j).2
      · rw [if_pos c]; simp
      · rw [if_neg c]; omega
    · rw [if_neg hj]
      refine ih ⟨i, ?_, he⟩
      have : i ≠ j := fun e => hj (e ▸ he)
      omega
theorem deadGo_ok (shares : List Int) (hs : isShares shares = true) (b : Int) (hb : 3600 ≤ b ∧ b ≤ 10000) : ∀ (d : Nat) (given out : List Int) (n : Int), n + d = tot shares + 1 → 1 ≤ n → DInv shares given → tot given = n - 1 →
    (deadGo shares (tot shares) b d given out n).2 = true := by
  have ht := isShares_pos hs
  intro d
  induction d with
  | zero => intros; rfl
  | succ d ih =>
    intro given out n hn h0 hi hg
    have hG : DBnd shares given (tot shares) b n := ⟨hs, rfl, hi, by omega, by omega⟩
    have hex : ∃ i, i < shares.length ∧ rd given i + 1 ≤ rd shares i := by
      refine Classical.byContradiction fun hno => ?_
      have h1 := tot_mono given shares hi.len (fun i hlt => by
        rw [hi.len] at hlt
        have h2 : ¬ rd given i + 1 ≤ rd shares i := fun h => hno ⟨i, hlt, h⟩
        omega)
      omega
    have hel : ∀ i, i < shares.length → rd given i + 1 ≤ rd shares i → dElig shares given (tot shares) b n i = true := by
      intro i hlt h
      have ⟨f1, f2, f3, f4, f5⟩ := hG.facts i hlt
      have h5 := mul60 (a := tot shares) (b := rd given i + 1) (A := 60) (B := 60) (by omega) (by omega)
      have h6 := mul60 (a := n) (b := rd shares i) (A := 60) (B := 60) (by omega) (by omega)
      rw [elig_second h, decide_eq_true_iff]
      omega
    obtain ⟨i, hi1, hi2⟩ := hex
    have hp := dPick_some (dElig shares given (tot shares) b n) (dOwn shares given (tot shares) b) shares.length ⟨i, hi1, hel i hi1 hi2⟩
    have hr := dPick_range (dElig shares given (tot shares) b n) (dOwn shares given (tot shares) b) shares.length
    rw [deadGo]
    generalize dPick (dElig shares given (tot shares) b n) (dOwn shares given (tot shares) b) shares.length = p at hr hp ⊢
    rcases hr with hr | ⟨j, hj1, hr, hr2, he⟩
    · omega
    · have ⟨f1, f2, f3, f4, f5⟩ := hG.facts j hj1
      have h5 := mul60 (a := tot shares) (b := rd given j) (A := 60) (B := 60) (by omega) (by omega)
      have how : dOwn shares given (tot shares) b j = tot shares := by
        have h7 : 60 ≤ (b + tot shares * rd given j) / rd shares j := (Int.le_ediv_iff_mul_le (by omega)).2 (by omega)
        rw [dOwn, mn, if_pos (by omega)]
      rw [if_neg (by omega), hr, Int.toNat_natCast]
      simp only [dElig, Bool.and_eq_true, decide_eq_true_iff] at he
      refine ih _ _ (n + 1) (by omega) (by omega) (hi.next hj1 he.1) ?_
      rw [tot_set _ _ (by rw [hi.len]; exact hj1)]
      omega
theorem tot_zeros (n : Nat) : tot (List.replicate n 0) = 0 := by
  induction n with
  | zero => rfl
  | succ n ih => rw [List.replicate_succ, tot, ih]; rfl
theorem dead_ok (shares : List Int) (hs : isShares shares = true) : (dead shares 3600).2 = true := by
  have ht := isShares_pos hs
  exact deadGo_ok shares hs 3600 (by omega) _ _ _ 1 (by omega) (by omega) (DInv.start hs) (by rw [tot_zeros]; rfl)
theorem dead_length (shares : List Int) (hs : isShares shares = true) (b : Int) : (dead shares b).1.length ≤ 60 := by
  have ht := isShares_pos hs
  have := deadGo_length shares (tot shares) b (tot shares).toNat (List.replicate shares.length 0) [] 1
  rw [dead]
  simp only [List.length_nil] at this
  omega
/-- the first number from b on for which there are deadline turns -/
def leastGo (f : Int → List Int × Bool) : Nat → Int → List Int × Int × Int
  | 0, b => ((f b).1, b, 0)
  | d + 1, b => if (f b).2 = true then ((f b).1, b, 0) else leastGo f d (b + 1)
theorem leastGo_from (f : Int → List Int × Bool) : ∀ (d : Nat) (b : Int), ∃ c, leastGo f d b = ((f c).1, c, 0) ∧ b ≤ c ∧ c ≤ b + d := by
  intro d
  induction d with
  | zero => intro b; exact ⟨b, rfl, by omega⟩
  | succ d ih =>
    intro b
    rw [leastGo]
    by_cases h : (f b).2 = true
    · exact ⟨b, by rw [if_pos h], by omega⟩
    · obtain ⟨c, h1, h2⟩ := ih (b + 1)
      exact ⟨c, by rw [if_neg h, h1], by omega⟩
def leastR (l : List Int) : List Int × Int × Int := if isShares l = true then leastGo (dead l) 3600 0 else ([], 0, 2)
theorem leastR_length (l : List Int) : (leastR l).1.length ≤ 60 := by
  unfold leastR
  split
  · rename_i h
    obtain ⟨c, h1, _⟩ := leastGo_from (dead l) 3600 0
    rw [h1]; exact dead_length l h c
  · simp
def deadR (l : List Int) (b : Int) : List Int × Int := if isShares l = true ∧ (0 ≤ b ∧ b ≤ 60) then (if (dead l b).2 = true then ((dead l b).1, 0) else ([], 4)) else ([], 2)
theorem deadR_length (l : List Int) (b : Int) : (deadR l b).1.length ≤ 60 := by
  unfold deadR
  split
  · rename_i h
    split
    · exact dead_length l h.1 b
    · simp
  · simp
end Go.Proofs.Ythcccgeeccjfiaa.Pure

namespace Go.Proofs.Ythcccgeeccjfiaa.Pure
open Go.RowKit Go.Proofs.Ythcccgeeccjfiaa.P Go.Proofs.YthcccgeeccjfiaaW.PrintWords Go.Proofs.YthcccgeeccjfiaaW.PrintLast Go.Proofs.YthcccgeeccjfiaaW.PrintMore
set_option linter.unusedVariables false
set_option linter.unusedSimpArgs false
theorem toInt64S_l0 (l : List Int) (hl : l.length ≤ 9223372036854775807) : ∀ d n : Nat, n + d = l.length → Ev (fun k => laws_toInt64S.l0 k l (l.take n ++ List.replicate d 0) (n : Int)) l := by
  intro d
  induction d with
  | zero =>
    intro n hn
    refine Ev.step (fun k => by rw [laws_toInt64S.l0]) ?_
    refine ev_neg (by omega) ?_
    rw [List.take_of_length_le (by omega), List.replicate_zero, List.append_nil]
    exact ev_now l
  | succ d ih =>
    intro n hn
    have hlt : n < l.length := by omega
    refine Ev.step (fun k => by rw [laws_toInt64S.l0]) ?_
    refine ev_pos (by omega) (ev_pos (by omega) (ev_pos ?_ ?_))
    · rw [List.length_append, List.length_take, List.length_replicate]; omega
    · rw [wrap_succ (by omega), rd_nat hlt, Int.toNat_natCast]
      have e : (l.take n ++ List.replicate (d + 1) 0).set n l[n] = l.take (n + 1) ++ List.replicate d 0 := by
        rw [List.set_append_right _ _ (by rw [List.length_take]; omega), List.length_take, Nat.min_eq_left (by omega), Nat.sub_self, List.replicate_succ, List.set_cons_zero, List.take_succ_eq_append_getElem hlt, List.append_assoc]
        rfl
      rw [e]
      exact ih (n + 1) (by omega)
/-- toInt64S hands back the list. -/
theorem toInt64S_ev (l : List Int) (hl : l.length ≤ 35184372088832) : Ev (fun k => laws_toInt64S.f k l) l := by
  unfold laws_toInt64S.f
  refine ev_pos (by omega) (ev_pos (by omega) ?_)
  rw [Int.toNat_natCast]
  exact toInt64S_l0 l (by omega) l.length 0 (by omega)

theorem eqInt64S_l0 (l : List Int) (hl : l.length ≤ 9223372036854775807) : ∀ d n : Nat, n + d = l.length → Ev (fun k => laws_eqInt64S.l0 k l l (n : Int)) true := by
  intro d
  induction d with
  | zero =>
    intro n hn
    refine Ev.step (fun k => by rw [laws_eqInt64S.l0]) ?_
    exact ev_neg (by omega) (ev_now true)
  | succ d ih =>
    intro n hn
    refine Ev.step (fun k => by rw [laws_eqInt64S.l0]) ?_
    refine ev_pos (by omega) (ev_pos (by omega) (ev_pos (by omega) (ev_pos rfl ?_)))
    rw [wrap_succ (by omega)]
    exact ih (n + 1) (by omega)
/-- eqInt64S says that a list is itself. -/
theorem eqInt64S_ev (l : List Int) (hl : l.length ≤ 9223372036854775807) : Ev (fun k => laws_eqInt64S.f k l l) true := by
  unfold laws_eqInt64S.f
  exact ev_pos rfl (eqInt64S_l0 l hl l.length 0 (by omega))
end Go.Proofs.Ythcccgeeccjfiaa.Pure

namespace Go.Proofs.Ythcccgeeccjfiaa.Pure
open Go.RowKit Go.Proofs.Ythcccgeeccjfiaa.P Go.Proofs.YthcccgeeccjfiaaW.PrintWords Go.Proofs.YthcccgeeccjfiaaW.PrintLast Go.Proofs.YthcccgeeccjfiaaW.PrintMore
set_option linter.unusedVariables false
set_option linter.unusedSimpArgs false
/-- the numbers from m on -/
def upFrom (m : Int) : Nat → List Int
  | 0 => []
  | n + 1 => m :: upFrom (m + 1) n
theorem upFrom_length (n : Nat) : ∀ m, (upFrom m n).length = n := by
  induction n with
  | zero => intro m; rfl
  | succ n ih => intro m; simp [upFrom, ih]
theorem upFrom_get (n : Nat) : ∀ (m : Int) (j : Nat), j < n → (upFrom m n)[j]? = some (m + j) := by
  induction n with
  | zero => intro m j h; omega
  | succ n ih =>
    intro m j h
    cases j with
    | zero => simp [upFrom]
    | succ j => simp only [upFrom, List.getElem?_cons_succ]; rw [ih (m + 1) j (by omega)]; congr 1; omega
theorem upFrom_succ (n : Nat) (m : Int) : upFrom m (n + 1) = upFrom m n ++ [m + n] := by
  apply List.ext_getElem?
  intro j
  rcases Nat.lt_or_ge j n with h | h
  · rw [upFrom_get _ _ _ (by omega), List.getElem?_append_left (by rw [upFrom_length]; exact h), upFrom_get _ _ _ h]
  · rw [List.getElem?_append_right (by rw [upFrom_length]; exact h), upFrom_length]
    rcases Nat.eq_or_lt_of_le h with rfl | h
    · rw [upFrom_get _ _ _ (by omega)]; simp
    · rw [List.getElem?_eq_none (by rw [upFrom_length]; omega), List.getElem?_eq_none (by simp; omega)]

theorem markInt64S_l0 (l : List Int) (m : Int) (h0 : 0 ≤ m) (hl : m + l.length ≤ 9223372036854775807) : ∀ d n : Nat, n + d = l.length → Ev (fun k => laws_markInt64S.l0 k (upFrom m n ++ l.drop n) (m + n) (n : Int)) (m + l.length, upFrom m l.length) := by
  intro d
  induction d with
  | zero =>
    intro n hn
    refine Ev.step (fun k => by rw [laws_markInt64S.l0]) ?_
    refine ev_neg (by rw [List.length_append, upFrom_length, List.length_drop]; omega) ?_
    rw [List.drop_of_length_le (by omega), List.append_nil, show n = l.length by omega]
    exact ev_now _
  | succ d ih =>
    intro n hn
    have hlt : n < l.length := by omega
    refine Ev.step (fun k => by rw [laws_markInt64S.l0]) ?_
    refine ev_pos (by rw [List.length_append, upFrom_length, List.length_drop]; omega) (ev_pos (by omega) ?_)
    rw [wrap_succ (by omega), wrap_id (x := m + n + 1) (by omega) (by omega), Int.toNat_natCast]
    have e : (upFrom m n ++ l.drop n).set n (m + n) = upFrom m (n + 1) ++ l.drop (n + 1) := by
      rw [List.set_append_right _ _ (by rw [upFrom_length]; omega), upFrom_length, Nat.sub_self, List.drop_eq_getElem_cons hlt, List.set_cons_zero, upFrom_succ, List.append_assoc]
      rfl
    rw [e, show m + (n : Int) + 1 = m + ((n + 1 : Nat) : Int) by omega]
    exact ih (n + 1) (by omega)
theorem markInt64S_ev (l : List Int) (m : Int) (h0 : 0 ≤ m) (hl : m + l.length ≤ 9223372036854775807) : Ev (fun k => laws_markInt64S.f k l m) (m + l.length, upFrom m l.length) := by
  unfold laws_markInt64S.f
  have h := markInt64S_l0 l m h0 hl l.length 0 (by omega)
  simpa [upFrom] using h
theorem heldInt64S_l0 (m : Int) (h0 : 0 ≤ m) (N : Nat) (hl : m + N ≤ 9223372036854775807) : ∀ d n : Nat, n + d = N → Ev (fun k => laws_heldInt64S.l0 k (upFrom m N) (m + n) (n : Int)) (m + N) := by
  intro d
  induction d with
  | zero =>
    intro n hn
    refine Ev.step (fun k => by rw [laws_heldInt64S.l0]) ?_
    refine ev_neg (by rw [upFrom_length]; omega) ?_
    rw [show n = N by omega]
    exact ev_now _
  | succ d ih =>
    intro n hn
    refine Ev.step (fun k => by rw [laws_heldInt64S.l0]) ?_
    refine ev_pos (by rw [upFrom_length]; omega) (ev_pos (by omega) (ev_pos ?_ ?_))
    · have h := upFrom_get N m n (by omega)
      simp [rd, h]
    · rw [wrap_succ (by omega), wrap_id (x := m + n + 1) (by omega) (by omega), show m + (n : Int) + 1 = m + ((n + 1 : Nat) : Int) by omega]
      exact ih (n + 1) (by omega)
theorem heldInt64S_ev (m : Int) (h0 : 0 ≤ m) (N : Nat) (hl : m + N ≤ 9223372036854775807) : Ev (fun k => laws_heldInt64S.f k (upFrom m N) m) (m + N) := by
  unfold laws_heldInt64S.f
  have h := heldInt64S_l0 m h0 N hl N 0 (by omega)
  simpa using h
end Go.Proofs.Ythcccgeeccjfiaa.Pure

namespace Go.Proofs.Ythcccgeeccjfiaa.Pure
open Go.RowKit Go.Proofs.Ythcccgeeccjfiaa.P Go.Proofs.YthcccgeeccjfiaaW.PrintWords Go.Proofs.YthcccgeeccjfiaaW.PrintLast Go.Proofs.YthcccgeeccjfiaaW.PrintMore
set_option linter.unusedVariables false
set_option linter.unusedSimpArgs false
theorem lastSlot_l0 (all s g b : Int) (ha : 1 ≤ all ∧ all ≤ 60) (hb : 0 ≤ b ∧ b ≤ 10000) (hs : 1 ≤ s ∧ s ≤ 60) (hg : 0 ≤ g ∧ g ≤ 60) : ∀ (d : Nat) (n : Int), n + d = all + 1 → 1 ≤ n → (n - 1) * s ≤ b + all * g →
    Ev (fun k => impl_lastSlot.l0 k all s (g + 1) b n) (mn ((b + all * g) / s + 1) all - 1) := by
  have h1 := mul60 (a := all) (b := g) (A := 60) (B := 60) (by omega) hg
  intro d
  induction d with
  | zero =>
    intro n hn h0 hle
    refine Ev.step (fun k => by rw [impl_lastSlot.l0]) ?_
    refine ev_neg (by omega) (ev_is ?_)
    have h2 : n - 1 ≤ (b + all * g) / s := (Int.le_ediv_iff_mul_le (by omega)).2 hle
    rw [wrap_id (by omega) (by omega), mn, if_pos (by omega)]
  | succ d ih =>
    intro n hn h0 hle
    have h2 := mul60 (a := n) (b := s) (A := 60) (B := 60) (by omega) (by omega)
    refine Ev.step (fun k => by rw [impl_lastSlot.l0]) ?_
    refine ev_pos (by omega) ?_
    rw [wrap_id (x := g + 1 - 1) (by omega) (by omega), show g + 1 - 1 = g by omega, wrap_id (x := n * s) (by omega) (by omega), wrap_id (x := all * g) (by omega) (by omega), wrap_id (x := n * s - all * g) (by omega) (by omega)]
    by_cases c : n * s - all * g > b
    · refine ev_pos c (ev_is ?_)
      have h3 : n - 1 ≤ (b + all * g) / s := (Int.le_ediv_iff_mul_le (by omega)).2 hle
      have h4 : (b + all * g) / s < n := (Int.ediv_lt_iff_lt_mul (by omega)).2 (by omega)
      rw [wrap_id (by omega) (by omega), mn, if_neg (by omega)]
      congr 1
      omega
    · refine ev_neg c ?_
      rw [wrap_id (x := n + 1) (by omega) (by omega)]
      exact ih (n + 1) (by omega) (by omega) (by rw [show n + 1 - 1 = n by omega]; omega)
theorem lastSlot_ev (all s g b : Int) (ha : 1 ≤ all ∧ all ≤ 60) (hb : 0 ≤ b ∧ b ≤ 10000) (hs : 1 ≤ s ∧ s ≤ 60) (hg : 0 ≤ g ∧ g ≤ 60) :
    Ev (fun k => impl_lastSlot.f k all s (g + 1) b) (mn ((b + all * g) / s + 1) all - 1) := by
  unfold impl_lastSlot.f
  have h1 := mul60 (a := all) (b := g) (A := 60) (B := 60) (by omega) hg
  exact lastSlot_l0 all s g b ha hb hs hg all.toNat 1 (by omega) (by omega) (by omega)
def lessOne (p : Int × Int) : Int := if p.1 < 0 then 0 else p.2 - 1
theorem Dead_impl_l1 (shares given out : List Int) (all b n : Int) (hG : DBnd shares given all b n) (R : List Int × Bool)
    (hR : Ev (fun k => impl_deadlines.l1 k shares b given all out n (dPick (dElig shares given all b n) (dOwn shares given all b) shares.length).1 (lessOne (dPick (dElig shares given all b n) (dOwn shares given all b) shares.length)) shares (shares.length : Int) (shares.length : Int)) R) :
    ∀ d j : Nat, j + d = shares.length → Ev (fun k => impl_deadlines.l1 k shares b given all out n (dPick (dElig shares given all b n) (dOwn shares given all b) j).1 (lessOne (dPick (dElig shares given all b n) (dOwn shares given all b) j)) shares (shares.length : Int) (j : Int)) R := by
  have hlen := hG.inv.len
  have hpos := ((isShares_iff shares).1 hG.sh).1
  intro d
  induction d with
  | zero =>
    intro j hj
    obtain rfl : j = shares.length := by omega
    exact hR
  | succ d ih =>
    intro j hj
    have hlt : j < shares.length := by omega
    have ⟨f1, f2, f3, f4, f5⟩ := hG.facts j hlt
    have h5 := mul60 (a := all) (b := rd given j + 1) (A := 60) (B := 61) (by omega) (by omega)
    have h6 := mul60 (a := n) (b := rd shares j) (A := 60) (B := 60) (by omega) (by omega)
    have hih := ih (j + 1) (by omega)
    rw [dPick] at hih
    have hr := dPick_range (dElig shares given all b n) (dOwn shares given all b) j
    generalize dPick (dElig shares given all b n) (dOwn shares given all b) j = p at hih hr ⊢
    refine Ev.step (fun k => by rw [impl_deadlines.l1]) ?_
    refine ev_pos (by omega) (ev_pos (by omega) (ev_pos (by omega) (ev_pos (by omega) ?_)))
    rw [wrap_id (x := rd given j + 1) (by omega) (by omega)]
    have hskip : dElig shares given all b n j = false → Ev (fun k => impl_deadlines.j2 k shares b given all out n p.1 (lessOne p) (j : Int) (rd shares j) (rd given j + 1) shares (shares.length : Int) (j : Int) true) R := by
      intro he
      rw [he, if_neg (by simp)] at hih
      refine Ev.step (fun k => by rw [impl_deadlines.j2]) ?_
      refine ev_pos rfl ?_
      rw [wrap_succ (by omega)]
      exact hih
    by_cases c1 : rd given j + 1 > rd shares j
    · exact ev_pos c1 (hskip (elig_false (by omega)))
    · refine ev_neg c1 ?_
      rw [wrap_id (x := all * (rd given j + 1)) (by omega) (by omega), wrap_id (x := n * rd shares j) (by omega) (by omega), wrap_id (x := _ - _) (by omega) (by omega), gt_flip, ← elig_second (n := n) (b := b) (all := all) (by omega)]
      cases he : dElig shares given all b n j with
      | false => exact hskip he
      | true =>
        rw [he, if_pos rfl] at hih
        refine Ev.step (fun k => by rw [impl_deadlines.j2]) ?_
        refine ev_neg (by simp) (ev_bind (lastSlot_ev all (rd shares j) (rd given j) b f1 f5 f3 f2) ?_)
        rw [wrap_succ (by omega)]
        by_cases c2 : p.1 < 0
        · rw [if_pos (.inl c2)] at hih
          refine ev_pos (by omega) ?_
          have e : lessOne ((j : Int), dOwn shares given all b j) = mn ((b + all * rd given j) / rd shares j + 1) all - 1 := by rw [lessOne, if_neg (by omega)]; rfl
          rw [e] at hih
          exact hih
        · refine ev_neg (by omega) ?_
          have el : lessOne p = p.2 - 1 := by rw [lessOne, if_neg c2]
          by_cases c3 : dOwn shares given all b j < p.2
          · rw [if_pos (.inr c3)] at hih
            have e : lessOne ((j : Int), dOwn shares given all b j) = mn ((b + all * rd given j) / rd shares j + 1) all - 1 := by rw [lessOne, if_neg (by omega)]; rfl
            rw [e] at hih
            refine ev_pos ?_ hih
            rw [el]; unfold dOwn at c3; omega
          · rw [if_neg (fun h => h.elim c2 c3)] at hih
            refine ev_neg ?_ hih
            rw [el]; unfold dOwn at c3; omega
theorem Dead_impl_l0 (shares : List Int) (hs : isShares shares = true) (b : Int) (hb : 0 ≤ b ∧ b ≤ 10000) : ∀ (d : Nat) (given out : List Int) (n : Int), n + d = tot shares + 1 → 1 ≤ n → out.length = n - 1 → DInv shares given →
    Ev (fun k => impl_deadlines.l0 k shares b given (tot shares) out n) (deadGo shares (tot shares) b d given out n) := by
  have ht := isShares_pos hs
  have hpos := ((isShares_iff shares).1 hs).1
  intro d
  induction d with
  | zero =>
    intro given out n hn h0 ho hi
    show Ev _ (out, true)
    refine Ev.step (fun k => by rw [impl_deadlines.l0]) ?_
    exact ev_neg (by omega) (ev_now _)
  | succ d ih =>
    intro given out n hn h0 ho hi
    have hG : DBnd shares given (tot shares) b n := ⟨hs, rfl, hi, hb, by omega⟩
    refine Ev.step (fun k => by rw [impl_deadlines.l0]) ?_
    refine ev_pos (by omega) (Dead_impl_l1 shares given out (tot shares) b n hG _ ?_ shares.length 0 (by omega))
    have hr := dPick_range (dElig shares given (tot shares) b n) (dOwn shares given (tot shares) b) shares.length
    rw [deadGo]
    generalize dPick (dElig shares given (tot shares) b n) (dOwn shares given (tot shares) b) shares.length = p at hr ⊢
    refine Ev.step (fun k => by rw [impl_deadlines.l1]) ?_
    refine ev_neg (by omega) ?_
    rcases hr with hr | ⟨i, hi1, hr, hr2, he⟩
    · rw [if_pos (.inl (by omega))]
      exact ev_pos hr (ev_now _)
    · refine ev_neg (by omega) ?_
      rw [wrap_id (x := n - 1) (by omega) (by omega), show lessOne p = p.2 - 1 by rw [lessOne, if_neg (by omega)]]
      by_cases c : p.2 < n
      · rw [if_pos (.inr c)]
        exact ev_pos (by omega) (ev_now _)
      · rw [if_neg (by omega)]
        have hf := hG.facts i hi1
        simp only [dElig, Bool.and_eq_true, decide_eq_true_iff] at he
        refine ev_neg (by omega) (ev_pos (by omega) (ev_pos (by rw [hi.len]; omega) (ev_pos (by omega) ?_)))
        rw [hr, wrap_id (x := n + 1) (by omega) (by omega), wrap_id (x := rd given i + 1) (by omega) (by omega), Int.toNat_natCast]
        exact ih _ _ (n + 1) (by omega) (by omega) (by rw [List.length_append, List.length_singleton]; omega) (hi.next hi1 he.1)
theorem deadlines_ev (shares : List Int) (hs : isShares shares = true) (b : Int) (hb : 0 ≤ b ∧ b ≤ 10000) : Ev (fun k => impl_deadlines.f k shares b) (dead shares b) := by
  unfold impl_deadlines.f dead
  have h1 := (isShares_iff shares).1 hs
  have ht := isShares_pos hs
  refine ev_pos (by omega) (ev_pos (by omega) (ev_bind (total_ev shares (by omega) (fun x hx => by have := h1.2.1 x hx; omega)) ?_))
  rw [Int.toNat_natCast]
  exact Dead_impl_l0 shares hs b hb _ _ [] 1 (by omega) (by omega) (by simp) (DInv.start hs)
end Go.Proofs.Ythcccgeeccjfiaa.Pure

namespace Go.Proofs.Ythcccgeeccjfiaa.Pure
open Go.RowKit Go.Proofs.Ythcccgeeccjfiaa.P Go.Proofs.YthcccgeeccjfiaaW.PrintWords Go.Proofs.YthcccgeeccjfiaaW.PrintLast Go.Proofs.YthcccgeeccjfiaaW.PrintMore
set_option linter.unusedVariables false
set_option linter.unusedSimpArgs false
theorem Least_spec_l0 (l : List Int) (hs : isShares l = true) : ∀ (d : Nat) (b : Int), b + d = 3600 → 0 ≤ b → Ev (fun k => spec_LeastDifference.l0 k l (tot l) b) (leastGo (dead l) d b) := by
  intro d
  induction d with
  | zero =>
    intro b hb h0
    obtain rfl : b = 3600 := by omega
    refine Ev.step (fun k => by rw [spec_LeastDifference.l0]) ?_
    exact ev_bind (l07Deadline_ev l hs 3600 (by omega)) (ev_pos (dead_ok l hs) (ev_now _))
  | succ d ih =>
    intro b hb h0
    refine Ev.step (fun k => by rw [spec_LeastDifference.l0]) ?_
    refine ev_bind (l07Deadline_ev l hs b (by omega)) ?_
    rw [leastGo]
    by_cases h : (dead l b).2 = true
    · rw [if_pos h]; exact ev_pos h (ev_now _)
    · rw [if_neg h]
      refine ev_neg h ?_
      rw [wrap_id (by omega) (by omega)]
      exact ih (b + 1) (by omega) (by omega)
theorem Least_impl_l0 (l : List Int) (hs : isShares l = true) : ∀ (d : Nat) (b : Int), b + d = 3600 → 0 ≤ b → Ev (fun k => impl_LeastDifference.l0 k l b) (leastGo (dead l) d b) := by
  intro d
  induction d with
  | zero =>
    intro b hb h0
    obtain rfl : b = 3600 := by omega
    refine Ev.step (fun k => by rw [impl_LeastDifference.l0]) ?_
    exact ev_bind (deadlines_ev l hs 3600 (by omega)) (ev_pos (dead_ok l hs) (ev_now _))
  | succ d ih =>
    intro b hb h0
    refine Ev.step (fun k => by rw [impl_LeastDifference.l0]) ?_
    refine ev_bind (deadlines_ev l hs b (by omega)) ?_
    rw [leastGo]
    by_cases h : (dead l b).2 = true
    · rw [if_pos h]; exact ev_pos h (ev_now _)
    · rw [if_neg h]
      refine ev_neg h ?_
      rw [wrap_id (by omega) (by omega)]
      exact ih (b + 1) (by omega) (by omega)
theorem spec_Least_ev (l : List Int) (hl : l.length ≤ 1048576) : Ev (fun k => spec_LeastDifference.f k l) (leastR l) := by
  unfold spec_LeastDifference.f leastR
  refine ev_bind (l07Sum_ev l hl) ?_
  by_cases hs : isShares l = true
  · have ht := isShares_pos hs
    rw [if_pos hs, if_pos hs]
    exact ev_neg (by omega) (Least_spec_l0 l hs 3600 0 (by omega) (by omega))
  · rw [if_neg hs, if_neg hs]
    exact ev_pos rfl (ev_now _)
theorem impl_Least_ev (l : List Int) (hl : l.length ≤ 1048576) : Ev (fun k => impl_LeastDifference.f k l) (leastR l) := by
  unfold impl_LeastDifference.f leastR
  refine ev_bind (areShares_ev l hl) ?_
  by_cases hs : isShares l = true
  · rw [if_pos hs, hs]
    exact ev_pos rfl (Least_impl_l0 l hs 3600 0 (by omega) (by omega))
  · rw [if_neg hs]
    exact ev_neg hs (ev_now _)
end Go.Proofs.Ythcccgeeccjfiaa.Pure

namespace Go.Proofs.Ythcccgeeccjfiaa.Pure
open Go.RowKit Go.Proofs.Ythcccgeeccjfiaa.P Go.Proofs.YthcccgeeccjfiaaW.PrintWords Go.Proofs.YthcccgeeccjfiaaW.PrintLast Go.Proofs.YthcccgeeccjfiaaW.PrintMore
set_option linter.unusedVariables false
set_option linter.unusedSimpArgs false
theorem LeastDifference_j2 (N : Nat) (hN : 1 + (N : Int) ≤ 9223372036854775807) : Ev (fun k => laws_FnExactLeastDifference.j2 k (upFrom 1 N) (1 + N) false) true := by
  refine Ev.step (fun k => by rw [laws_FnExactLeastDifference.j2]) ?_
  refine ev_neg (by simp) (ev_bind (heldInt64S_ev 1 (by omega) N hN) ?_)
  exact ev_neg (by omega) (ev_pos rfl (ev_now _))
theorem LeastDifference_j1 (l : List Int) (hl : l.length ≤ 1048576) : Ev (fun k => laws_FnExactLeastDifference.j1 k l (leastR l).1 (leastR l).2.1 (leastR l).2.2 (leastR l).1 false) true := by
  have hr := leastR_length l
  refine Ev.step (fun k => by rw [laws_FnExactLeastDifference.j1]) ?_
  refine ev_neg (by simp) (ev_bind (markInt64S_ev _ 1 (by omega) (by omega)) (ev_bind (heldInt64S_ev 1 (by omega) _ (by omega)) ?_))
  refine ev_neg (by omega) (ev_pos rfl (ev_bind (toInt64S_ev l (by omega)) (ev_bind (impl_Least_ev l (by omega)) (ev_bind (eqInt64S_ev _ (by omega)) (ev_pos rfl (ev_pos rfl ?_))))))
  rw [bne_self_eq_false]
  exact LeastDifference_j2 _ (by omega)
theorem LeastDifference_j0 (l : List Int) (hl : l.length ≤ 1048576) : Ev (fun k => laws_FnExactLeastDifference.j0 k l (leastR l).1 (leastR l).2.1 (leastR l).2.2 l (leastR l).1 (leastR l).2.1 (leastR l).2.2 false) true := by
  have hr := leastR_length l
  refine Ev.step (fun k => by rw [laws_FnExactLeastDifference.j0]) ?_
  refine ev_neg (by simp) (ev_bind (toInt64S_ev l (by omega)) (ev_bind (eqInt64S_ev l (by omega)) (ev_pos rfl (ev_bind (markInt64S_ev l 1 (by omega) (by omega)) ?_))))
  refine ev_neg (by omega) (ev_bind (eqInt64S_ev _ (by omega)) (ev_pos rfl (ev_pos rfl ?_)))
  rw [bne_self_eq_false]
  exact LeastDifference_j1 l hl
theorem FnExactLeastDifference : laws_FnExactLeastDifference.Pure := by
  intro l _ _ _
  refine ev_rounds (g := fun k => laws_FnExactLeastDifference.f k l) ?_
  unfold laws_FnExactLeastDifference.f
  by_cases hl : l.length ≤ 1048576
  · have hr := leastR_length l
    refine ev_neg (by omega) (ev_bind (toInt64S_ev l (by omega)) (ev_bind (spec_Least_ev l (by omega)) (ev_bind (toInt64S_ev l (by omega)) (ev_bind (impl_Least_ev l (by omega)) (ev_bind (eqInt64S_ev _ (by omega)) (ev_pos rfl (ev_pos rfl ?_)))))))
    rw [bne_self_eq_false]
    exact LeastDifference_j0 l hl
  · exact ev_pos (by omega) (ev_now _)
end Go.Proofs.Ythcccgeeccjfiaa.Pure

namespace Go.Proofs.Ythcccgeeccjfiaa.fnExactLeastDifference
open Go.ChangeShapes Go.WideShapes Go.ChangeAt Go.RowKit
open Go.ChangeMaps (open_string shut_string)
set_option linter.unusedVariables false
theorem own : ownKnob Try.prog.godebug = none := by kernel_rfl
theorem laidOut : laidOutB Try.prog = true := by kernel_rfl
def IsRow (k : IntKind) (w : World) (a : Option Addr) (len cap : Nat) (zs : List Int) : Prop :=
  (a = none ∧ len = 0 ∧ cap = 0 ∧ zs = []) ∨
  ∃ x, a = some x ∧ len ≤ cap ∧ cap ≤ maxLen ∧ zs.length = cap ∧ (∀ i, i < zs.length → w.cell? (x.add i) = some (.int k (zs.getD i 0))) ∧ ∀ n ∈ zs, (Lit.int k n).wf = true
set_option maxRecDepth 100000 in
theorem lifted (os : Os) (started : os.Started) (H : Type) (enc : TypeId × Value → H) :
    ReturnsInHanded {} Try.checked os 6 .any (Rows.fnExactLeastDifferenceSpec.pre6 enc Try.prog Try.f6 Rows.fnExactLeastDifferenceRow.domain false) (Rows.fnExactLeastDifferenceSpec.post enc Try.prog Try.f6 false true false false) := by
  refine returnsInHanded_of_change_sized (C := Try.checked) own started (by kernel_rfl) Try.func6
    (ChangeSpec.witness6 (enc := enc) (C := Try.checked) false ⟨#[], #[.slice none 0 0], []⟩ 8 (by kernel_rfl) (by kernel_rfl) (by kernel_rfl) (by kernel_rfl)) ?_
  intro W base args ds gs before hval0 hW hcnd hsz0 _
  have hsz : (DataW.weightsEach Try.prog (Try.f6.params.toList ++ Rows.fnExactLeastDifferenceSpec.plain.varTypes Try.prog) (ds ++ gs)).all (· ≤ reachBytes) = true := hsz0
  have hval : ∀ (j : Nat) t v, Try.f6.params[j]? = some t → args[j]? = some v → Value.okWide Try.prog W .any base t v := hval0
  have hW' := hW
  obtain ⟨p, q, hA0, hV, rfl, hfz, hnd⟩ := hW
  have hA : DataW.TrodAll enc Try.prog W 0 (fun _ => true) true Try.f6.params.toList args.toList ds p := hA0
  rw [Try.params6] at hA hval hsz
  obtain ⟨v0, vs0, d0, ds0, p0, q0, hargs, rfl, rfl, h0, r0⟩ := trodAll_cons hA
  obtain ⟨rfl, rfl, rfl⟩ := trodAll_nil r0
  obtain rfl : args = #[v0] := by cases args; simp_all
  obtain ⟨rfl, rfl⟩ := trodVars_none hV
  obtain ⟨a0, len0, cap0, rfl⟩ := okWide_slice Try.underlying22 (hval 0 22 v0 rfl rfl)
  have k0 := h0
  have lt0 : ∀ x ∈ p0, x.block < W.heap.size := by obtain ⟨m, hm⟩ := k0; exact DataW.trod_lt m _ _ _ hm
  obtain ⟨z0, w0⟩ : ∃ zs, IsRow .i64 W a0 len0 cap0 zs := by
    obtain ⟨fuel, hf⟩ := h0
    rcases open_ints Try.underlying22 Try.underlying2 (by kernel_rfl) hf with ⟨hcs, _⟩ | ⟨x, l, c, zs, hcs, _, hl, hm, hz, _, hcell, hwz⟩
    · simp [Value.cells] at hcs
      obtain ⟨rfl, rfl, rfl⟩ := hcs
      exact ⟨[], .inl ⟨rfl, rfl, rfl, rfl⟩⟩
    · simp [Value.cells] at hcs
      obtain ⟨rfl, rfl, rfl⟩ := hcs
      exact ⟨zs, .inr ⟨_, rfl, hl, hm, by simpa using hz, hcell, hwz⟩⟩
  have y0 : len0 * 8 ≤ 140737488351232 := Go.Proofs.YthcccgeeccjfiaaW.PrintWords.sized_ints hsz (j := 0) (t := 22) rfl rfl Try.underlying22 Try.underlying2 (by kernel_rfl) (by kernel_rfl) h0
  clear hA0 hval0 hsz0 hsz
  refine (P.laws_FnExactLeastDifference.walk Pure.FnExactLeastDifference a0 len0 cap0 z0 W w0 y0).mono fun e W' ⟨he, bel⟩ => ?_
  subst he
  exact ⟨_, rfl, _, _, _, [], _, [], hW', trodAll_mk1 (shut_bool Try.underlying4 _), (trodAll_cons_mk (Below.trod laidOut (by kernel_rfl) (of_decide_eq_true (by kernel_rfl)) k0 bel lt0) trodAll_mk0), rfl, bel.frame _, fun h => by cases h⟩
theorem over : Rows.fnExactLeastDifferenceRow.holds Try.pinned (OpenSpec.ofChange Rows.fnExactLeastDifferenceSpec) :=
  OpenClaim.holds_of_wide 6 Try.f6 rfl rfl rfl rfl rfl rfl rfl ⟨rfl, rfl, rfl, rfl, rfl⟩ rfl rfl rfl rfl rfl (by kernel_rfl) Try.func6 (by kernel_rfl)
    (of_decide_eq_true (by kernel_rfl)) (by unfold Func.isWrapper; first | (rw [if_pos (by decide +kernel)]; kernel_rfl) | (rw [if_neg (by decide +kernel)]; exact ⟨rfl, rfl⟩))
    (fun os started H enc _ => lifted os started H enc)
theorem proved : Rows.FnExactLeastDifferenceSaid := over
end Go.Proofs.Ythcccgeeccjfiaa.fnExactLeastDifference
namespace Go.Proofs.Ythcccgeeccjfiaa
/-- The row, under a short name, for the claim. -/
theorem fnExactLeastDifference_holds : Rows.FnExactLeastDifferenceSaid := fnExactLeastDifference.proved
end Go.Proofs.Ythcccgeeccjfiaa
