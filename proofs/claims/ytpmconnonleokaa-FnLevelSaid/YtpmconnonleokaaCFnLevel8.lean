/- Greedy turns and deadline turns have their shares, least differences are not greater than those of greedy turns, and doubled turns are balanced. -/
import Derived.Test.YtpmconnonleokaaCFnLevel7
section
namespace Go.Proofs.Ytpmconnonleokaa.P
open Go.RowKit Go.Proofs.YtpmconnonleokaaW.PrintWords Go.Proofs.YtpmconnonleokaaW.PrintLast Go.Proofs.YtpmconnonleokaaW.PrintMore
attribute [local go_sem] max2_int min2_int max_two min_two max_three min_three max_four min_four   -- for this text's walks alone
set_option linter.unusedVariables false
set_option linter.unusedSimpArgs false
set_option maxHeartbeats 8000000 in
set_option maxRecDepth 100000 in
theorem laws_FnLevel.calls (k : Nat) (A0 : Option Addr) (c0 : Nat) (l0 : List Int) (r : Bool) (w : World) (hr0 : Kd.C (Kd.int .u8) w A0 l0.length l0) (hc0 : l0.length ≤ c0) (h : laws_FnLevel.f k l0 = some r) :
    Calls Try.prog 3 #[.slice A0 l0.length c0] w fun e w' => e = .returned (.bool r) ∧ Below w.heap.size w w' := by
 have hu34 := Try.underlying34
 have HR0 := Aside0.mk hr0
 have HC0 := Aside0.mk hc0
 clear hr0 hc0
 have HB := Aside0.mk (Below.refl w.heap.size w)
 have H : ((laws_big.f l0).bind fun t101 => (if t101 = true then (some true) else ((spec_DrawLeastDifference.f k l0).bind fun t102 => ((impl_LeastDifference.f k t102).bind fun bt105 => ((spec_LeastDifference.f k t102).bind fun bt110 => ((impl_GreedyTurns.f k t102).bind fun bt115 => ((spec_GreedyTurns.f k t102).bind fun bt119 => (if bt105.2.2 = bt110.2.2 then ((laws_likeInts.f k bt105.1 bt110.1).bind fun t123 => (if t123 = true then (if bt105.2.1 = bt110.2.1 then (if bt115.2 = bt119.2 then ((laws_likeInts.f k bt115.1 bt119.1).bind fun t124 => (if t124 = true then (laws_FnLevel.j0 k l0 t102 bt105.1 bt105.2.1 bt105.2.2 bt115.1 (bt105.2.2 != bt115.2)) else (laws_FnLevel.j0 k l0 t102 bt105.1 bt105.2.1 bt105.2.2 bt115.1 true))) else (laws_FnLevel.j0 k l0 t102 bt105.1 bt105.2.1 bt105.2.2 bt115.1 true)) else (laws_FnLevel.j0 k l0 t102 bt105.1 bt105.2.1 bt105.2.2 bt115.1 true)) else (laws_FnLevel.j0 k l0 t102 bt105.1 bt105.2.1 bt105.2.2 bt115.1 true))) else (laws_FnLevel.j0 k l0 t102 bt105.1 bt105.2.1 bt105.2.2 bt115.1 true))))))))) = some r := h
 clear h
 replace H := Option.bind_eq_some_iff.mp H
 obtain ⟨t101, A20, H⟩ := H
 replace H : (if t101 = true then (some true) else ((spec_DrawLeastDifference.f k l0).bind fun t102 => ((impl_LeastDifference.f k t102).bind fun bt105 => ((spec_LeastDifference.f k t102).bind fun bt110 => ((impl_GreedyTurns.f k t102).bind fun bt115 => ((spec_GreedyTurns.f k t102).bind fun bt119 => (if bt105.2.2 = bt110.2.2 then ((laws_likeInts.f k bt105.1 bt110.1).bind fun t123 => (if t123 = true then (if bt105.2.1 = bt110.2.1 then (if bt115.2 = bt119.2 then ((laws_likeInts.f k bt115.1 bt119.1).bind fun t124 => (if t124 = true then (laws_FnLevel.j0 k l0 t102 bt105.1 bt105.2.1 bt105.2.2 bt115.1 (bt105.2.2 != bt115.2)) else (laws_FnLevel.j0 k l0 t102 bt105.1 bt105.2.1 bt105.2.2 bt115.1 true))) else (laws_FnLevel.j0 k l0 t102 bt105.1 bt105.2.1 bt105.2.2 bt115.1 true)) else (laws_FnLevel.j0 k l0 t102 bt105.1 bt105.2.1 bt105.2.2 bt115.1 true)) else (laws_FnLevel.j0 k l0 t102 bt105.1 bt105.2.1 bt105.2.2 bt115.1 true))) else (laws_FnLevel.j0 k l0 t102 bt105.1 bt105.2.1 bt105.2.2 bt115.1 true)))))))) = some r := H
 have A2 := Aside0.mk A20
 clear A20
 by_cases c3 : t101 = true
 ·
  subst c3
  have H1 : (some true) = some r := by rw [if_pos rfl] at H; exact H
  clear H
  have H := H1
  clear H1
  obtain rfl := Option.some.inj H
  go_enter Try.func3, Try.ntmps3
  go_wp2_with (first | ((with_reducible refine gate_callee (f := 4) rfl ?_); refine goesL_ (some 55) rfl rfl Try.func4 zk rfl #[.slice A0 l0.length c0] rfl zA ?_; (with_reducible refine (laws_big.calls _ _ l0 true _ ?side1 ?side2 A2.out).mono ?_); (case side1 => exact zC HR0.out); (case side2 => exact HC0.out); rintro e w' ⟨rfl, ⟨nd, rfl⟩⟩; refine ⟨_, rfl, ?_⟩))
  go_ret
  exact ⟨zE, zB⟩
 replace c3 := Bool.eq_false_iff.mpr c3
 subst c3
 have H1 : ((spec_DrawLeastDifference.f k l0).bind fun t102 => ((impl_LeastDifference.f k t102).bind fun bt105 => ((spec_LeastDifference.f k t102).bind fun bt110 => ((impl_GreedyTurns.f k t102).bind fun bt115 => ((spec_GreedyTurns.f k t102).bind fun bt119 => (if bt105.2.2 = bt110.2.2 then ((laws_likeInts.f k bt105.1 bt110.1).bind fun t123 => (if t123 = true then (if bt105.2.1 = bt110.2.1 then (if bt115.2 = bt119.2 then ((laws_likeInts.f k bt115.1 bt119.1).bind fun t124 => (if t124 = true then (laws_FnLevel.j0 k l0 t102 bt105.1 bt105.2.1 bt105.2.2 bt115.1 (bt105.2.2 != bt115.2)) else (laws_FnLevel.j0 k l0 t102 bt105.1 bt105.2.1 bt105.2.2 bt115.1 true))) else (laws_FnLevel.j0 k l0 t102 bt105.1 bt105.2.1 bt105.2.2 bt115.1 true)) else (laws_FnLevel.j0 k l0 t102 bt105.1 bt105.2.1 bt105.2.2 bt115.1 true)) else (laws_FnLevel.j0 k l0 t102 bt105.1 bt105.2.1 bt105.2.2 bt115.1 true))) else (laws_FnLevel.j0 k l0 t102 bt105.1 bt105.2.1 bt105.2.2 bt115.1 true))))))) = some r := by rw [if_neg (show ¬ (false = true) by decide)] at H; exact H
 clear H
 have H := H1
 clear H1
 replace H := Option.bind_eq_some_iff.mp H
 obtain ⟨t102, A40, H⟩ := H
 replace H : ((impl_LeastDifference.f k t102).bind fun bt105 => ((spec_LeastDifference.f k t102).bind fun bt110 => ((impl_GreedyTurns.f k t102).bind fun bt115 => ((spec_GreedyTurns.f k t102).bind fun bt119 => (if bt105.2.2 = bt110.2.2 then ((laws_likeInts.f k bt105.1 bt110.1).bind fun t123 => (if t123 = true then (if bt105.2.1 = bt110.2.1 then (if bt115.2 = bt119.2 then ((laws_likeInts.f k bt115.1 bt119.1).bind fun t124 => (if t124 = true then (laws_FnLevel.j0 k l0 t102 bt105.1 bt105.2.1 bt105.2.2 bt115.1 (bt105.2.2 != bt115.2)) else (laws_FnLevel.j0 k l0 t102 bt105.1 bt105.2.1 bt105.2.2 bt115.1 true))) else (laws_FnLevel.j0 k l0 t102 bt105.1 bt105.2.1 bt105.2.2 bt115.1 true)) else (laws_FnLevel.j0 k l0 t102 bt105.1 bt105.2.1 bt105.2.2 bt115.1 true)) else (laws_FnLevel.j0 k l0 t102 bt105.1 bt105.2.1 bt105.2.2 bt115.1 true))) else (laws_FnLevel.j0 k l0 t102 bt105.1 bt105.2.1 bt105.2.2 bt115.1 true)))))) = some r := H
 have A4 := Aside0.mk A40
 clear A40
 replace H := Option.bind_eq_some_iff.mp H
 obtain ⟨⟨t105, t106, t107⟩, A50, H⟩ := H
 replace H : ((spec_LeastDifference.f k t102).bind fun bt110 => ((impl_GreedyTurns.f k t102).bind fun bt115 => ((spec_GreedyTurns.f k t102).bind fun bt119 => (if t107 = bt110.2.2 then ((laws_likeInts.f k t105 bt110.1).bind fun t123 => (if t123 = true then (if t106 = bt110.2.1 then (if bt115.2 = bt119.2 then ((laws_likeInts.f k bt115.1 bt119.1).bind fun t124 => (if t124 = true then (laws_FnLevel.j0 k l0 t102 t105 t106 t107 bt115.1 (t107 != bt115.2)) else (laws_FnLevel.j0 k l0 t102 t105 t106 t107 bt115.1 true))) else (laws_FnLevel.j0 k l0 t102 t105 t106 t107 bt115.1 true)) else (laws_FnLevel.j0 k l0 t102 t105 t106 t107 bt115.1 true)) else (laws_FnLevel.j0 k l0 t102 t105 t106 t107 bt115.1 true))) else (laws_FnLevel.j0 k l0 t102 t105 t106 t107 bt115.1 true))))) = some r := H
 have A5 := Aside0.mk A50
 clear A50
 replace H := Option.bind_eq_some_iff.mp H
 obtain ⟨⟨t110, t111, t112⟩, A60, H⟩ := H
 replace H : ((impl_GreedyTurns.f k t102).bind fun bt115 => ((spec_GreedyTurns.f k t102).bind fun bt119 => (if t107 = t112 then ((laws_likeInts.f k t105 t110).bind fun t123 => (if t123 = true then (if t106 = t111 then (if bt115.2 = bt119.2 then ((laws_likeInts.f k bt115.1 bt119.1).bind fun t124 => (if t124 = true then (laws_FnLevel.j0 k l0 t102 t105 t106 t107 bt115.1 (t107 != bt115.2)) else (laws_FnLevel.j0 k l0 t102 t105 t106 t107 bt115.1 true))) else (laws_FnLevel.j0 k l0 t102 t105 t106 t107 bt115.1 true)) else (laws_FnLevel.j0 k l0 t102 t105 t106 t107 bt115.1 true)) else (laws_FnLevel.j0 k l0 t102 t105 t106 t107 bt115.1 true))) else (laws_FnLevel.j0 k l0 t102 t105 t106 t107 bt115.1 true)))) = some r := H
 have A6 := Aside0.mk A60
 clear A60
 replace H := Option.bind_eq_some_iff.mp H
 obtain ⟨⟨t115, t116⟩, A70, H⟩ := H
 replace H : ((spec_GreedyTurns.f k t102).bind fun bt119 => (if t107 = t112 then ((laws_likeInts.f k t105 t110).bind fun t123 => (if t123 = true then (if t106 = t111 then (if t116 = bt119.2 then ((laws_likeInts.f k t115 bt119.1).bind fun t124 => (if t124 = true then (laws_FnLevel.j0 k l0 t102 t105 t106 t107 t115 (t107 != t116)) else (laws_FnLevel.j0 k l0 t102 t105 t106 t107 t115 true))) else (laws_FnLevel.j0 k l0 t102 t105 t106 t107 t115 true)) else (laws_FnLevel.j0 k l0 t102 t105 t106 t107 t115 true)) else (laws_FnLevel.j0 k l0 t102 t105 t106 t107 t115 true))) else (laws_FnLevel.j0 k l0 t102 t105 t106 t107 t115 true))) = some r := H
 have A7 := Aside0.mk A70
 clear A70
 replace H := Option.bind_eq_some_iff.mp H
 obtain ⟨⟨t119, t120⟩, A80, H⟩ := H
 replace H : (if t107 = t112 then ((laws_likeInts.f k t105 t110).bind fun t123 => (if t123 = true then (if t106 = t111 then (if t116 = t120 then ((laws_likeInts.f k t115 t119).bind fun t124 => (if t124 = true then (laws_FnLevel.j0 k l0 t102 t105 t106 t107 t115 (t107 != t116)) else (laws_FnLevel.j0 k l0 t102 t105 t106 t107 t115 true))) else (laws_FnLevel.j0 k l0 t102 t105 t106 t107 t115 true)) else (laws_FnLevel.j0 k l0 t102 t105 t106 t107 t115 true)) else (laws_FnLevel.j0 k l0 t102 t105 t106 t107 t115 true))) else (laws_FnLevel.j0 k l0 t102 t105 t106 t107 t115 true)) = some r := H
 have A8 := Aside0.mk A80
 clear A80
 have HC9 := Aside0.mk H
 clear H
 go_enter Try.func3, Try.ntmps3
 go_upto_region 8 with (first | ((with_reducible refine gate_callee (f := 4) rfl ?_); refine goesL_ (some 55) rfl rfl Try.func4 zk rfl #[.slice A0 l0.length c0] rfl zA ?_; (with_reducible refine (laws_big.calls _ _ l0 false _ ?side1 ?side2 A2.out).mono ?_); (case side1 => exact zC HR0.out); (case side2 => exact HC0.out); rintro e w' ⟨rfl, ⟨nd, rfl⟩⟩; refine ⟨_, rfl, ?_⟩) | ((with_reducible refine gate_callee (f := 5) rfl ?_); refine goesL_ (some 57) rfl rfl Try.func5 zk rfl #[.slice A0 l0.length c0] rfl zA ?_; (with_reducible refine (spec_DrawLeastDifference.calls k _ _ l0 t102 _ ?side1 ?side2 A4.out).mono ?_); (case side1 => exact zC HR0.out); (case side2 => exact HC0.out); rintro e w10 ⟨v103, rfl, ho0, hb⟩; refine ⟨_, rfl, ?_⟩; have n_ := y2 (Kd.R_lower ho0 (below_size (zB))) (below_step (zB) hb); clear HB; obtain ⟨HO104, HB⟩ := n_; (try clear hb); (try clear hb2); (try clear hk); (try clear hi); (try clear ho0); obtain ⟨Ao11, co11, eo11⟩ := Kd.R_slice HO104.out; subst eo11) | ((with_reducible refine gate_callee (f := 6) rfl ?_); refine goesL_ (some 60) rfl rfl Try.func6 zk rfl #[.slice Ao11 t102.length co11] rfl zA ?_; (with_reducible refine (impl_LeastDifference.calls k _ _ t102 t105 t106 t107 _ ?side1 ?side2 A5.out).mono ?_); (case side1 => exact zC (Kd.R_reads' HO104.out).2.2); (case side2 => exact (Kd.R_reads' HO104.out).2.1); rintro e w12 ⟨v108, rfl, ho0, hb⟩; refine ⟨_, rfl, ?_⟩; have n_ := y3 (Kd.R_elder' (zR HO104.out) (Kd.R_base ho0) hb) (Kd.R_lower (Kd.R_new' ho0 (Kd.R_lt (zR HO104.out))) (below_size (zB))) (below_step (zB) hb); clear HO104 HB; obtain ⟨HO104, HO109, HB⟩ := n_; (try clear hb); (try clear hb2); (try clear hk); (try clear hi); (try clear ho0)) | ((with_reducible refine gate_callee (f := 7) rfl ?_); refine goesL_ (some 66) rfl rfl Try.func7 zk rfl #[.slice Ao11 t102.length co11] rfl zA ?_; (with_reducible refine (spec_LeastDifference.calls k _ _ t102 t110 t111 t112 _ ?side1 ?side2 A6.out).mono ?_); (case side1 => exact zC (Kd.R_reads' HO104.out).2.2); (case side2 => exact (Kd.R_reads' HO104.out).2.1); rintro e w13 ⟨v113, rfl, ho0, hb⟩; refine ⟨_, rfl, ?_⟩; have n_ := y4 (Kd.R_elder' (zR HO104.out) (Kd.R_base ho0) hb) (Kd.R_elder' (zR HO109.out) (Kd.R_base ho0) hb) (Kd.R_lower (Kd.R_new' (Kd.R_new' ho0 (Kd.R_lt (zR HO104.out))) (Kd.R_lt (zR HO109.out))) (below_size (zB))) (below_step (zB) hb); clear HO104 HO109 HB; obtain ⟨HO104, HO109, HO114, HB⟩ := n_; (try clear hb); (try clear hb2); (try clear hk); (try clear hi); (try clear ho0)) | ((with_reducible refine gate_callee (f := 8) rfl ?_); refine goesL_ (some 72) rfl rfl Try.func8 zk rfl #[.slice Ao11 t102.length co11] rfl zA ?_; (with_reducible refine (impl_GreedyTurns.calls k _ _ t102 t115 t116 _ ?side1 ?side2 A7.out).mono ?_); (case side1 => exact zC (Kd.R_reads' HO104.out).2.2); (case side2 => exact (Kd.R_reads' HO104.out).2.1); rintro e w14 ⟨v117, rfl, ho0, hb⟩; refine ⟨_, rfl, ?_⟩; have n_ := y5 (Kd.R_elder' (zR HO104.out) (Kd.R_base ho0) hb) (Kd.R_elder' (zR HO109.out) (Kd.R_base ho0) hb) (Kd.R_elder' (zR HO114.out) (Kd.R_base ho0) hb) (Kd.R_lower (Kd.R_new' (Kd.R_new' (Kd.R_new' ho0 (Kd.R_lt (zR HO104.out))) (Kd.R_lt (zR HO109.out))) (Kd.R_lt (zR HO114.out))) (below_size (zB))) (below_step (zB) hb); clear HO104 HO109 HO114 HB; obtain ⟨HO104, HO109, HO114, HO118, HB⟩ := n_; (try clear hb); (try clear hb2); (try clear hk); (try clear hi); (try clear ho0)) | ((with_reducible refine gate_callee (f := 9) rfl ?_); refine goesL_ (some 77) rfl rfl Try.func9 zk rfl #[.slice Ao11 t102.length co11] rfl zA ?_; (with_reducible refine (spec_GreedyTurns.calls k _ _ t102 t119 t120 _ ?side1 ?side2 A8.out).mono ?_); (case side1 => exact zC (Kd.R_reads' HO104.out).2.2); (case side2 => exact (Kd.R_reads' HO104.out).2.1); rintro e w15 ⟨v121, rfl, ho0, hb⟩; refine ⟨_, rfl, ?_⟩; have n_ := y6 (Kd.R_elder' (zR HO104.out) (Kd.R_base ho0) hb) (Kd.R_elder' (zR HO109.out) (Kd.R_base ho0) hb) (Kd.R_elder' (zR HO114.out) (Kd.R_base ho0) hb) (Kd.R_elder' (zR HO118.out) (Kd.R_base ho0) hb) (Kd.R_lower (Kd.R_new' (Kd.R_new' (Kd.R_new' (Kd.R_new' ho0 (Kd.R_lt (zR HO104.out))) (Kd.R_lt (zR HO109.out))) (Kd.R_lt (zR HO114.out))) (Kd.R_lt (zR HO118.out))) (below_size (zB))) (below_step (zB) hb); clear HO104 HO109 HO114 HO118 HB; obtain ⟨HO104, HO109, HO114, HO118, HO122, HB⟩ := n_; (try clear hb); (try clear hb2); (try clear hk); (try clear hi); (try clear ho0)))
 (try simp only [Act.put, List.setIfInBounds_toArray, List.set_cons_zero, List.set_cons_succ])
 go_cut [109] (fun v109 wc => ∃ (kq : Nat) (x109_8 : Bool), v109 = .bool x109_8 ∧ Aside0 (laws_FnLevel.j0 kq l0 t102 t105 t106 t107 t115 x109_8 = some r) ∧ Aside0 (kq ≤ k) ∧ Aside0 (Kd.R (Kd.int .i64) 2 wc w.heap.size (fun k_ => some k_ ≠ (v108 : Value).ownBlock ∧ some k_ ≠ (v117 : Value).ownBlock) (.slice Ao11 t102.length co11) t102) ∧ Aside0 (Kd.R (Kd.int .i64) 2 wc w.heap.size (fun k_ => some k_ ≠ ((.slice Ao11 t102.length co11) : Value).ownBlock ∧ some k_ ≠ (v117 : Value).ownBlock) v108 t105) ∧ Aside0 (Kd.R (Kd.int .i64) 2 wc w.heap.size (fun k_ => some k_ ≠ ((.slice Ao11 t102.length co11) : Value).ownBlock ∧ some k_ ≠ (v108 : Value).ownBlock) v117 t115) ∧ Aside0 (Below w.heap.size w wc))
 case first =>
  as_aux_lemma =>
   have H := HC9.out
   clear HC9
   by_cases c16 : t107 = t112
   ·
    rw [if_pos c16] at H
    have c16b0 : (t107 == t112) = true := beq_iff_eq.mpr c16
    have c16b1 : (t107 != t112) = false := bne_eq_false_iff_eq.mpr c16
    clear c16
    (first | rw [c16b0] | (simp only [i64_w, i32_w]; rw [c16b0]) | skip)
    replace H := Option.bind_eq_some_iff.mp H
    obtain ⟨t123, A170, H⟩ := H
    replace H : (if t123 = true then (if t106 = t111 then (if t116 = t120 then ((laws_likeInts.f k t115 t119).bind fun t124 => (if t124 = true then (laws_FnLevel.j0 k l0 t102 t105 t106 t107 t115 (t107 != t116)) else (laws_FnLevel.j0 k l0 t102 t105 t106 t107 t115 true))) else (laws_FnLevel.j0 k l0 t102 t105 t106 t107 t115 true)) else (laws_FnLevel.j0 k l0 t102 t105 t106 t107 t115 true)) else (laws_FnLevel.j0 k l0 t102 t105 t106 t107 t115 true)) = some r := H
    have A17 := Aside0.mk A170
    clear A170
    by_cases c18 : t123 = true
    ·
     subst c18
     have H1 : (if t106 = t111 then (if t116 = t120 then ((laws_likeInts.f k t115 t119).bind fun t124 => (if t124 = true then (laws_FnLevel.j0 k l0 t102 t105 t106 t107 t115 (t107 != t116)) else (laws_FnLevel.j0 k l0 t102 t105 t106 t107 t115 true))) else (laws_FnLevel.j0 k l0 t102 t105 t106 t107 t115 true)) else (laws_FnLevel.j0 k l0 t102 t105 t106 t107 t115 true)) = some r := by rw [if_pos rfl] at H; exact H
     clear H
     have H := H1
     clear H1
     by_cases c19 : t106 = t111
     ·
      rw [if_pos c19] at H
      have c19b0 : (t106 == t111) = true := beq_iff_eq.mpr c19
      have c19b1 : (t106 != t111) = false := bne_eq_false_iff_eq.mpr c19
      clear c19
      by_cases c20 : t116 = t120
      ·
       rw [if_pos c20] at H
       have c20b0 : (t116 == t120) = true := beq_iff_eq.mpr c20
       have c20b1 : (t116 != t120) = false := bne_eq_false_iff_eq.mpr c20
       clear c20
       replace H := Option.bind_eq_some_iff.mp H
       obtain ⟨t124, A210, H⟩ := H
       replace H : (if t124 = true then (laws_FnLevel.j0 k l0 t102 t105 t106 t107 t115 (t107 != t116)) else (laws_FnLevel.j0 k l0 t102 t105 t106 t107 t115 true)) = some r := H
       have A21 := Aside0.mk A210
       clear A210
       by_cases c22 : t124 = true
       ·
        subst c22
        have H1 : (laws_FnLevel.j0 k l0 t102 t105 t106 t107 t115 (t107 != t116)) = some r := by rw [if_pos rfl] at H; exact H
        clear H
        have H := H1
        clear H1
        have H' := Aside0.mk H
        clear H
        obtain ⟨Ao23, co23, eo23⟩ := Kd.R_slice HO109.out
        subst eo23
        obtain ⟨Ao24, co24, eo24⟩ := Kd.R_slice HO114.out
        subst eo24
        go_wp2_with (first | (go_at_call 10; (with_reducible refine (laws_likeInts.calls k _ _ t105 _ _ t110 true _ ?side1 ?side2 ?side3 ?side4 A17.out).mono ?_); (case side1 => exact zC (Kd.R_reads' HO109.out).2.2); (case side2 => exact (Kd.R_reads' HO109.out).2.1); (case side3 => exact zC (Kd.R_reads' HO114.out).2.2); (case side4 => exact (Kd.R_reads' HO114.out).2.1); rintro e w' ⟨rfl, ⟨nd, rfl⟩⟩; obtain ⟨Ao25, co25, eo25⟩ := Kd.R_slice HO118.out; subst eo25; obtain ⟨Ao26, co26, eo26⟩ := Kd.R_slice HO122.out; subst eo26) | (go_at_call 10; (with_reducible refine (laws_likeInts.calls k _ _ t115 _ _ t119 true _ ?side1 ?side2 ?side3 ?side4 A21.out).mono ?_); (case side1 => exact zC (Kd.R_reads' HO118.out).2.2); (case side2 => exact (Kd.R_reads' HO118.out).2.1); (case side3 => exact zC (Kd.R_reads' HO122.out).2.2); (case side4 => exact (Kd.R_reads' HO122.out).2.1); rintro e w' ⟨rfl, ⟨nd, rfl⟩⟩))
        go_meet
        case rel => exact ⟨_, ((t107 != t116)), zF, H', ⟨by first | omega | exact Nat.le_refl _⟩, ⟨by refine zR ?_; exact Kd.R_mono HO104.out (fun _ hk => ⟨hk.1.1.1.2, hk.1.2⟩)⟩, ⟨by refine zR ?_; exact Kd.R_mono HO109.out (fun _ hk => ⟨hk.1.1.1.2, hk.1.2⟩)⟩, ⟨by refine zR ?_; exact Kd.R_mono HO118.out (fun _ hk => ⟨hk.1.1.1.2, hk.1.1.2⟩)⟩, ⟨zB⟩⟩
       replace c22 := Bool.eq_false_iff.mpr c22
       subst c22
       have H1 : (laws_FnLevel.j0 k l0 t102 t105 t106 t107 t115 true) = some r := by rw [if_neg (show ¬ (false = true) by decide)] at H; exact H
       clear H
       have H := H1
       clear H1
       have H' := Aside0.mk H
       clear H
       obtain ⟨Ao27, co27, eo27⟩ := Kd.R_slice HO109.out
       subst eo27
       obtain ⟨Ao28, co28, eo28⟩ := Kd.R_slice HO114.out
       subst eo28
       go_wp2_with (first | (go_at_call 10; (with_reducible refine (laws_likeInts.calls k _ _ t105 _ _ t110 true _ ?side1 ?side2 ?side3 ?side4 A17.out).mono ?_); (case side1 => exact zC (Kd.R_reads' HO109.out).2.2); (case side2 => exact (Kd.R_reads' HO109.out).2.1); (case side3 => exact zC (Kd.R_reads' HO114.out).2.2); (case side4 => exact (Kd.R_reads' HO114.out).2.1); rintro e w' ⟨rfl, ⟨nd, rfl⟩⟩; obtain ⟨Ao29, co29, eo29⟩ := Kd.R_slice HO118.out; subst eo29; obtain ⟨Ao30, co30, eo30⟩ := Kd.R_slice HO122.out; subst eo30) | (go_at_call 10; (with_reducible refine (laws_likeInts.calls k _ _ t115 _ _ t119 false _ ?side1 ?side2 ?side3 ?side4 A21.out).mono ?_); (case side1 => exact zC (Kd.R_reads' HO118.out).2.2); (case side2 => exact (Kd.R_reads' HO118.out).2.1); (case side3 => exact zC (Kd.R_reads' HO122.out).2.2); (case side4 => exact (Kd.R_reads' HO122.out).2.1); rintro e w' ⟨rfl, ⟨nd, rfl⟩⟩))
       go_meet
       case rel => exact ⟨_, (true), zF, H', ⟨by first | omega | exact Nat.le_refl _⟩, ⟨by refine zR ?_; exact Kd.R_mono HO104.out (fun _ hk => ⟨hk.1.1.1.2, hk.1.2⟩)⟩, ⟨by refine zR ?_; exact Kd.R_mono HO109.out (fun _ hk => ⟨hk.1.1.1.2, hk.1.2⟩)⟩, ⟨by refine zR ?_; exact Kd.R_mono HO118.out (fun _ hk => ⟨hk.1.1.1.2, hk.1.1.2⟩)⟩, ⟨zB⟩⟩
      rw [if_neg c20] at H
      have c20b0 : (t116 == t120) = false := beq_eq_false_iff_ne.mpr c20
      have c20b1 : (t116 != t120) = true := bne_iff_ne.mpr c20
      have H' := Aside0.mk H
      clear H
      obtain ⟨Ao31, co31, eo31⟩ := Kd.R_slice HO109.out
      subst eo31
      obtain ⟨Ao32, co32, eo32⟩ := Kd.R_slice HO114.out
      subst eo32
      go_wp2_with (first | (go_at_call 10; (with_reducible refine (laws_likeInts.calls k _ _ t105 _ _ t110 true _ ?side1 ?side2 ?side3 ?side4 A17.out).mono ?_); (case side1 => exact zC (Kd.R_reads' HO109.out).2.2); (case side2 => exact (Kd.R_reads' HO109.out).2.1); (case side3 => exact zC (Kd.R_reads' HO114.out).2.2); (case side4 => exact (Kd.R_reads' HO114.out).2.1); rintro e w' ⟨rfl, ⟨nd, rfl⟩⟩))
      go_meet
      case rel => exact ⟨_, (true), zF, H', ⟨by first | omega | exact Nat.le_refl _⟩, ⟨by refine zR ?_; exact Kd.R_mono HO104.out (fun _ hk => ⟨hk.1.1.1.2, hk.1.2⟩)⟩, ⟨by refine zR ?_; exact Kd.R_mono HO109.out (fun _ hk => ⟨hk.1.1.1.2, hk.1.2⟩)⟩, ⟨by refine zR ?_; exact Kd.R_mono HO118.out (fun _ hk => ⟨hk.1.1.1.2, hk.1.1.2⟩)⟩, ⟨zB⟩⟩
     rw [if_neg c19] at H
     have c19b0 : (t106 == t111) = false := beq_eq_false_iff_ne.mpr c19
     have c19b1 : (t106 != t111) = true := bne_iff_ne.mpr c19
     have H' := Aside0.mk H
     clear H
     obtain ⟨Ao33, co33, eo33⟩ := Kd.R_slice HO109.out
     subst eo33
     obtain ⟨Ao34, co34, eo34⟩ := Kd.R_slice HO114.out
     subst eo34
     go_wp2_with (first | (go_at_call 10; (with_reducible refine (laws_likeInts.calls k _ _ t105 _ _ t110 true _ ?side1 ?side2 ?side3 ?side4 A17.out).mono ?_); (case side1 => exact zC (Kd.R_reads' HO109.out).2.2); (case side2 => exact (Kd.R_reads' HO109.out).2.1); (case side3 => exact zC (Kd.R_reads' HO114.out).2.2); (case side4 => exact (Kd.R_reads' HO114.out).2.1); rintro e w' ⟨rfl, ⟨nd, rfl⟩⟩))
     go_meet
     case rel => exact ⟨_, (true), zF, H', ⟨by first | omega | exact Nat.le_refl _⟩, ⟨by refine zR ?_; exact Kd.R_mono HO104.out (fun _ hk => ⟨hk.1.1.1.2, hk.1.2⟩)⟩, ⟨by refine zR ?_; exact Kd.R_mono HO109.out (fun _ hk => ⟨hk.1.1.1.2, hk.1.2⟩)⟩, ⟨by refine zR ?_; exact Kd.R_mono HO118.out (fun _ hk => ⟨hk.1.1.1.2, hk.1.1.2⟩)⟩, ⟨zB⟩⟩
    replace c18 := Bool.eq_false_iff.mpr c18
    subst c18
    have H1 : (laws_FnLevel.j0 k l0 t102 t105 t106 t107 t115 true) = some r := by rw [if_neg (show ¬ (false = true) by decide)] at H; exact H
    clear H
    have H := H1
    clear H1
    have H' := Aside0.mk H
    clear H
    obtain ⟨Ao35, co35, eo35⟩ := Kd.R_slice HO109.out
    subst eo35
    obtain ⟨Ao36, co36, eo36⟩ := Kd.R_slice HO114.out
    subst eo36
    go_wp2_with (first | (go_at_call 10; (with_reducible refine (laws_likeInts.calls k _ _ t105 _ _ t110 false _ ?side1 ?side2 ?side3 ?side4 A17.out).mono ?_); (case side1 => exact zC (Kd.R_reads' HO109.out).2.2); (case side2 => exact (Kd.R_reads' HO109.out).2.1); (case side3 => exact zC (Kd.R_reads' HO114.out).2.2); (case side4 => exact (Kd.R_reads' HO114.out).2.1); rintro e w' ⟨rfl, ⟨nd, rfl⟩⟩))
    go_meet
    case rel => exact ⟨_, (true), zF, H', ⟨by first | omega | exact Nat.le_refl _⟩, ⟨by refine zR ?_; exact Kd.R_mono HO104.out (fun _ hk => ⟨hk.1.1.1.2, hk.1.2⟩)⟩, ⟨by refine zR ?_; exact Kd.R_mono HO109.out (fun _ hk => ⟨hk.1.1.1.2, hk.1.2⟩)⟩, ⟨by refine zR ?_; exact Kd.R_mono HO118.out (fun _ hk => ⟨hk.1.1.1.2, hk.1.1.2⟩)⟩, ⟨zB⟩⟩
   rw [if_neg c16] at H
   have c16b0 : (t107 == t112) = false := beq_eq_false_iff_ne.mpr c16
   have c16b1 : (t107 != t112) = true := bne_iff_ne.mpr c16
   (first | rw [c16b0] | (simp only [i64_w, i32_w]; rw [c16b0]) | skip)
   have H' := Aside0.mk H
   clear H
   go_wp2
   go_meet
   case rel => exact ⟨_, (true), zF, H', ⟨by first | omega | exact Nat.le_refl _⟩, ⟨by refine zR ?_; exact Kd.R_mono HO104.out (fun _ hk => ⟨hk.1.1.1.2, hk.1.2⟩)⟩, ⟨by refine zR ?_; exact Kd.R_mono HO109.out (fun _ hk => ⟨hk.1.1.1.2, hk.1.2⟩)⟩, ⟨by refine zR ?_; exact Kd.R_mono HO118.out (fun _ hk => ⟨hk.1.1.1.2, hk.1.1.2⟩)⟩, ⟨zB⟩⟩
 case rest =>
  as_aux_lemma =>
   clear HC9
   try clear c3
   obtain ⟨kq, x109_8, rfl, HA, HJ8, HO_3, HO_4, HO_10, HB⟩ := hcut
   cases kq with
   | zero => exact absurd HA.out (by simp [laws_FnLevel.j0])
   | succ kj8 =>
     have H := HA.out
     clear HA
     simp only [laws_FnLevel.j0] at H
     by_cases c37 : x109_8 = true
     · subst c37
       have H1 : (some false) = some r := by rw [if_pos rfl] at H; exact H
       clear H
       have H := H1
       clear H1
       obtain rfl := Option.some.inj H
       go_wp2
       go_ret
       exact ⟨zE, zB⟩
     · replace c37 := Bool.eq_false_iff.mpr c37
       subst c37
       have H1 : (if t107 = 0 then ((impl_GreatestDifference.f kj8 t105).bind fun bt125 => ((impl_GreatestDifference.f kj8 t115).bind fun bt127 => (laws_FnLevel.l0 kj8 l0 t102 t105 t106 t115 bt125.1 bt125.2 bt127.1 bt127.2 (t102.length : Int) 0 (([] : List Int))))) else (laws_FnLevel.j3 kj8 l0)) = some r := by rw [if_neg (show ¬ (false = true) by decide)] at H; exact H
       clear H
       have H := H1
       clear H1
       have HC38 := Aside0.mk H
       clear H
       go_upto_if 111 with (fail)
       go_cut [] (fun wc => ∃ (kq : Nat), Aside0 (laws_FnLevel.j3 kq l0 = some r) ∧ Aside0 (kq ≤ kj8) ∧ Aside0 (Below w.heap.size w wc))
       case first =>
         as_aux_lemma =>
          have H := HC38.out
          clear HC38
          by_cases c39 : t107 = 0
          · rw [if_pos c39] at H
            have c39b0 : (t107 == 0) = true := beq_iff_eq.mpr c39
            have c39b1 : (t107 != 0) = false := bne_eq_false_iff_eq.mpr c39
            clear c39
            (first | rw [c39b0] | (simp only [i64_w, i32_w]; rw [c39b0]) | skip)
            replace H := Option.bind_eq_some_iff.mp H
            obtain ⟨⟨t125, t126⟩, A400, H⟩ := H
            replace H : ((impl_GreatestDifference.f kj8 t115).bind fun bt127 => (laws_FnLevel.l0 kj8 l0 t102 t105 t106 t115 t125 t126 bt127.1 bt127.2 (t102.length : Int) 0 (([] : List Int)))) = some r := H
            have A40 := Aside0.mk A400
            clear A400
            replace H := Option.bind_eq_some_iff.mp H
            obtain ⟨⟨t127, t128⟩, A410, H⟩ := H
            replace H : (laws_FnLevel.l0 kj8 l0 t102 t105 t106 t115 t125 t126 t127 t128 (t102.length : Int) 0 (([] : List Int))) = some r := H
            have A41 := Aside0.mk A410
            clear A410
            obtain ⟨y129, hy129⟩ : ∃ y_ : List Int, y_ = (([] : List Int)) := ⟨_, rfl⟩
            replace H : (laws_FnLevel.l0 kj8 l0 t102 t105 t106 t115 t125 t126 t127 t128 (t102.length : Int) 0 y129) = some r := zH hy129
            have Ny129 := Aside0.mk hy129
            clear hy129
            have H' := Aside0.mk H
            clear H
            obtain ⟨Ao42, co42, eo42⟩ := Kd.R_slice HO_4.out
            subst eo42
            go_wp2_with (first | ((with_reducible refine gate_callee (f := 11) rfl ?_); refine goesL_ (some 114) rfl rfl Try.func11 zk rfl #[.slice Ao42 t105.length co42] rfl zA ?_; (with_reducible refine (impl_GreatestDifference.calls kj8 _ _ t105 t125 t126 _ ?side1 ?side2 A40.out).mono ?_); (case side1 => exact zC (Kd.R_reads' HO_4.out).2.2); (case side2 => exact (Kd.R_reads' HO_4.out).2.1); rintro e w43 ⟨rfl, hb⟩; refine ⟨_, rfl, ?_⟩; have n_ := y4 (Kd.R_below (zR HO_3.out) hb) (Kd.R_below (zR HO_4.out) hb) (Kd.R_below (zR HO_10.out) hb) (below_step (zB) hb); clear HO_3 HO_4 HO_10 HB; obtain ⟨HO_3, HO_4, HO_10, HB⟩ := n_; (try clear hb); (try clear hb2); (try clear hk); (try clear hi); obtain ⟨Ao44, co44, eo44⟩ := Kd.R_slice HO_10.out; subst eo44) | ((with_reducible refine gate_callee (f := 11) rfl ?_); refine goesL_ (some 119) rfl rfl Try.func11 zk rfl #[.slice Ao44 t115.length co44] rfl zA ?_; (with_reducible refine (impl_GreatestDifference.calls kj8 _ _ t115 t127 t128 _ ?side1 ?side2 A41.out).mono ?_); (case side1 => exact zC (Kd.R_reads' HO_10.out).2.2); (case side2 => exact (Kd.R_reads' HO_10.out).2.1); rintro e w45 ⟨rfl, hb⟩; refine ⟨_, rfl, ?_⟩; have n_ := y4 (Kd.R_below (zR HO_3.out) hb) (Kd.R_below (zR HO_4.out) hb) (Kd.R_below (zR HO_10.out) hb) (below_step (zB) hb); clear HO_3 HO_4 HO_10 HB; obtain ⟨HO_3, HO_4, HO_10, HB⟩ := n_; (try clear hb); (try clear hb2); (try clear hk); (try clear hi)) | ((with_reducible refine gate_dst (N := 122) rfl ?_); (try (refine gate_guard (by rfl) ?_; dsimp only)); refine Kd.R_lit (Kd.int .i64) _ 2 ?hg (N := 122) ?hd (xs := ([] : List Int)) (inner := []) (ok := fun _ => True) (okp := fun _ => True) ?hr ?hp (fun _ hk => hk) trivial (Below.refl _ _) (Nat.le_refl _) (by simp) ?_; (case hd => rfl); (case hg => rfl); (case hr => first | (go_simp; done) | (go_simp; rfl)); (case hp => exact (Reps.none _ _)); intro v130 w46 ho47 hb hg_ hnew_; clear hg_ hnew_; (first | rw [← Ny129.out] at ho47 | (simp only [Int.reduceToNat] at ho47; rw [← Ny129.out] at ho47)); have n_ := y5 (Kd.R_elder' (zR HO_3.out) (Kd.R_base ho47) hb) (Kd.R_elder' (zR HO_4.out) (Kd.R_base ho47) hb) (Kd.R_elder' (zR HO_10.out) (Kd.R_base ho47) hb) (Kd.R_lower (Kd.R_new' (Kd.R_new' (Kd.R_new' ho47 (Kd.R_lt (zR HO_3.out))) (Kd.R_lt (zR HO_4.out))) (Kd.R_lt (zR HO_10.out))) (below_size (zB))) (below_step (zB) hb); clear HO_3 HO_4 HO_10 HB; obtain ⟨HO_3, HO_4, HO_10, HO131, HB⟩ := n_; clear hb ho47; obtain ⟨Ao48, co48, eo48⟩ := Kd.R_slice HO131.out; subst eo48) | ((with_reducible refine gate_dst (N := 18) rfl ?_); (try (refine gate_guard (by rfl) ?_; dsimp only)); refine box_event zr (N := 18) zr (cs := #[.slice none 0 0]) (t := 34) zg ?_; intro gb132 hg w49 hbox hb; have n_ := y8 (Kd.R_below (zR HO_3.out) hb) (Kd.R_below (zR HO_4.out) hb) (Kd.R_below (zR HO_10.out) hb) (Kd.R_below (zR HO131.out) hb) (below_step (zB) hb) (hbox) ((zS hg : w.heap.size ≤ gb132)) ((zS hg : w.heap.size ≤ gb132)); clear HO_3 HO_4 HO_10 HO131 HB; obtain ⟨HO_3, HO_4, HO_10, HO131, HB, BK132, GW132, GE132⟩ := n_; clear hb hbox hg; have hcz50_0 := zc BK132.out; have hfz50_0 := blk_frozen BK132.out 0))
            go_loopg [126] kj8 (fun kq v126 w' => ∃ (x126_2 : Int) (x133000_2 : List Int) (u133000 : Value), v126 = .int .i64 x126_2 ∧ Aside0 (laws_FnLevel.l0 kq l0 t102 t105 t106 t115 t125 t126 t127 t128 (t102.length : Int) x126_2 x133000_2 = some r) ∧ Aside0 (kq ≤ kj8) ∧ Aside0 (Kd.R (Kd.int .i64) 2 w' w.heap.size (fun k_ => some k_ ≠ ((.slice Ao42 t105.length co42) : Value).ownBlock ∧ some k_ ≠ ((.slice Ao44 t115.length co44) : Value).ownBlock ∧ some k_ ≠ (u133000 : Value).ownBlock) (.slice Ao11 t102.length co11) t102) ∧ Aside0 (Kd.R (Kd.int .i64) 2 w' w.heap.size (fun k_ => some k_ ≠ ((.slice Ao11 t102.length co11) : Value).ownBlock ∧ some k_ ≠ ((.slice Ao44 t115.length co44) : Value).ownBlock ∧ some k_ ≠ (u133000 : Value).ownBlock) (.slice Ao42 t105.length co42) t105) ∧ Aside0 (Kd.R (Kd.int .i64) 2 w' w.heap.size (fun k_ => some k_ ≠ ((.slice Ao11 t102.length co11) : Value).ownBlock ∧ some k_ ≠ ((.slice Ao42 t105.length co42) : Value).ownBlock ∧ some k_ ≠ (u133000 : Value).ownBlock) (.slice Ao44 t115.length co44) t115) ∧ Aside0 (Kd.R (Kd.int .i64) 2 w' w.heap.size (fun k_ => some k_ ≠ ((.slice Ao11 t102.length co11) : Value).ownBlock ∧ some k_ ≠ ((.slice Ao42 t105.length co42) : Value).ownBlock ∧ some k_ ≠ ((.slice Ao44 t115.length co44) : Value).ownBlock) u133000 x133000_2) ∧ Aside0 (w'.heap[gb132]? = some (.cells #[u133000] 34 (0, 0))) ∧ Aside0 (Below w.heap.size w w'))
            case atStart => exact ⟨(0), (y129), (.slice Ao48 y129.length co48), zF, H', ⟨Nat.le_refl _⟩, ⟨by refine zR ?_; exact Kd.R_mono (Kd.R_far (p := ⟨gb132, 0, none⟩) (Kd.R_types HO_3.out BK132.out (by decide)) (fun _ hk => hk.2) (.slice Ao48 y129.length co48)) (fun _ hk => ⟨hk.1.1.1, ⟨hk.1.1.2, hk.1.2⟩⟩)⟩, ⟨by refine zR ?_; exact Kd.R_mono (Kd.R_far (p := ⟨gb132, 0, none⟩) (Kd.R_types HO_4.out BK132.out (by decide)) (fun _ hk => hk.2) (.slice Ao48 y129.length co48)) (fun _ hk => ⟨hk.1.1.1, ⟨hk.1.1.2, hk.1.2⟩⟩)⟩, ⟨by refine zR ?_; exact Kd.R_mono (Kd.R_far (p := ⟨gb132, 0, none⟩) (Kd.R_types HO_10.out BK132.out (by decide)) (fun _ hk => hk.2) (.slice Ao48 y129.length co48)) (fun _ hk => ⟨hk.1.1.1, ⟨hk.1.1.2, hk.1.2⟩⟩)⟩, ⟨by refine zR ?_; exact Kd.R_mono (Kd.R_far (p := ⟨gb132, 0, none⟩) (Kd.R_types HO131.out BK132.out (by decide)) (fun _ hk => hk.2) (.slice Ao48 y129.length co48)) (fun _ hk => ⟨hk.1.1.1.2, ⟨hk.1.1.2, hk.1.2⟩⟩)⟩, ⟨by refine zG ?_; refine blk_put (cs := #[.slice none 0 0]) ?_ 0 _ rfl; refine zG ?_; exact BK132.out⟩, ⟨zB⟩⟩
            case round =>
              as_aux_lemma =>
               clear H'
               try clear c3
               try clear c37
               try clear c39
               try clear c39b0
               try clear c39b1
               try clear hcz50_0
               try clear hfz50_0
               obtain ⟨x126_2, x133000_2, u133000, rfl, HA, HK2, HO_3, HO_4, HO_10, HO_133000, BK132, HB⟩ := hrel
               cases gk with
               | zero => exact absurd HA.out (by simp [laws_FnLevel.l0])
               | succ k2 =>
                 have H := HA.out
                 clear HA
                 simp only [laws_FnLevel.l0] at H
                 by_cases c51 : x126_2 < (t102.length : Int)
                 · rw [if_pos c51] at H
                   have c51b0 : decide (x126_2 < (t102.length : Int)) = true := decide_eq_true c51
                   clear c51
                   by_cases c52 : x133000_2.length < 17592186044416
                   · as_aux_lemma =>
                      rw [if_pos c52] at H
                      have LMc52 := Aside0.mk c52
                      clear c52
                      obtain ⟨y133, hy133⟩ : ∃ y_ : List Int, y_ = (x133000_2 ++ [1]) := ⟨_, rfl⟩
                      replace H : (laws_FnLevel.l0 k2 l0 t102 t105 t106 t115 t125 t126 t127 t128 (t102.length : Int) (wrap64 (x126_2 + 1)) y133) = some r := zH hy133
                      have Ny133 := Aside0.mk hy133
                      clear hy133
                      have H' := Aside0.mk H
                      clear H
                      have hcz53_0 := zc BK132.out
                      have hfz53_0 := blk_frozen BK132.out 0
                      go_wp2_with (first | ((with_reducible refine gate_builtin (b := .append) (xs := #[.tmp 129, .tmp 130]) rfl ?_); (try (refine gate_guard (by rfl) ?_; dsimp only)); at_builtin; refine Kd.R_append (Kd.int .i64) (w0 := w) w.heap.size rfl (.tmp 129) (.tmp 130) 24 2 (.int .i64 0) 8 rfl Try.underlying24 info2 rfl (by decide) (by omega) u133000 x133000_2 1 [.int .i64 1] (fun k_ => some k_ ≠ (.slice Ao11 t102.length co11 : Value).ownBlock ∧ some k_ ≠ (.slice Ao42 t105.length co42 : Value).ownBlock ∧ some k_ ≠ (.slice Ao44 t115.length co44 : Value).ownBlock) (fun _ => False) rfl rfl ?aP (fun _ hk => hk.elim) ?aF ?aO ?aB ?aS ?aL ?_; (case aP => exact rfl); (case aB => exact (zB)); (case aF => exact (fun k_ hk => ⟨Kd.fresh' (Kd.R_lt (zR HO_3.out)) k_ hk, Kd.fresh' (Kd.R_lt (zR HO_4.out)) k_ hk, Kd.fresh' (Kd.R_lt (zR HO_10.out)) k_ hk⟩)); (case aO => exact (zR HO_133000.out)); (case aS => exact (below_size (zB))); (case aL => have := LMc52.out; omega); intro v134 w54 ho hb hg hat; rw [← Ny133.out] at ho; have n_ := y6 (Kd.R_after (ok := (fun k_ => some k_ ≠ (.slice Ao42 t105.length co42 : Value).ownBlock ∧ some k_ ≠ (.slice Ao44 t115.length co44 : Value).ownBlock)) (by refine zR ?_; exact Kd.R_mono HO_3.out (fun _ hk => ⟨⟨hk.1, hk.2.1⟩, hk.2.2⟩)) hg hat) (Kd.R_after (ok := (fun k_ => some k_ ≠ (.slice Ao11 t102.length co11 : Value).ownBlock ∧ some k_ ≠ (.slice Ao44 t115.length co44 : Value).ownBlock)) (by refine zR ?_; exact Kd.R_mono HO_4.out (fun _ hk => ⟨⟨hk.1, hk.2.1⟩, hk.2.2⟩)) hg hat) (Kd.R_after (ok := (fun k_ => some k_ ≠ (.slice Ao11 t102.length co11 : Value).ownBlock ∧ some k_ ≠ (.slice Ao42 t105.length co42 : Value).ownBlock)) (by refine zR ?_; exact Kd.R_mono HO_10.out (fun _ hk => ⟨⟨hk.1, hk.2.1⟩, hk.2.2⟩)) hg hat) (blk_grown (g := gb132) (o := .cells #[u133000] 34 (0, 0)) (zG BK132.out) hg (Kd.R_ne HO_133000.out BK132.out (by decide))) (hb) (ho); clear HO_3 HO_4 HO_10 BK132 HB HO_133000; obtain ⟨HO_3, HO_4, HO_10, BK132, HB, HO135⟩ := n_; clear ho hb hg hat; obtain ⟨Ao55, co55, eo55⟩ := Kd.R_slice HO135.out; subst eo55; have hcz56_0 := zc BK132.out; have hfz56_0 := blk_frozen BK132.out 0))
                      go_roundg k2
                      case measure => have := HJ8.out; have := HK2.out; omega
                      case rel => exact ⟨(wrap64 (x126_2 + 1)), (y133), (.slice Ao55 y133.length co55), zF, H', ⟨by have := HJ8.out; have := HK2.out; omega⟩, ⟨by refine zR ?_; exact Kd.R_mono (Kd.R_far (p := ⟨gb132, 0, none⟩) (Kd.R_types HO_3.out BK132.out (by decide)) (fun _ hk => hk.2) (.slice Ao55 y133.length co55)) (fun _ hk => ⟨hk.1.1.1, ⟨hk.1.1.2, hk.1.2⟩⟩)⟩, ⟨by refine zR ?_; exact Kd.R_mono (Kd.R_far (p := ⟨gb132, 0, none⟩) (Kd.R_types HO_4.out BK132.out (by decide)) (fun _ hk => hk.2) (.slice Ao55 y133.length co55)) (fun _ hk => ⟨hk.1.1.1, ⟨hk.1.1.2, hk.1.2⟩⟩)⟩, ⟨by refine zR ?_; exact Kd.R_mono (Kd.R_far (p := ⟨gb132, 0, none⟩) (Kd.R_types HO_10.out BK132.out (by decide)) (fun _ hk => hk.2) (.slice Ao55 y133.length co55)) (fun _ hk => ⟨hk.1.1.1, ⟨hk.1.1.2, hk.1.2⟩⟩)⟩, ⟨by refine zR ?_; exact Kd.R_mono (Kd.R_far (p := ⟨gb132, 0, none⟩) (Kd.R_types HO135.out BK132.out (by decide)) (fun _ hk => hk.2) (.slice Ao55 y133.length co55)) (fun _ hk => ⟨hk.1.1, ⟨hk.1.2.1, hk.1.2.2⟩⟩)⟩, ⟨by refine zG ?_; refine blk_put (cs := #[u133000]) ?_ 0 _ rfl; refine zG ?_; exact BK132.out⟩, ⟨zB⟩⟩
                   · rw [if_neg c52] at H
                     exact absurd H (by simp)
                 · rw [if_neg c51] at H
                   have c51b0 : decide (x126_2 < (t102.length : Int)) = false := decide_eq_false c51
                   clear c51
                   replace H := Option.bind_eq_some_iff.mp H
                   obtain ⟨⟨t136, t139, t140⟩, A570, H⟩ := H
                   replace H : ((impl_SharesOf.f k2 x133000_2 t115).bind fun bt141 => (if t126 = 0 then (if t128 = 0 then (if t140 = 0 then (if bt141.2.2 = 0 then (if t125 = t106 then (if t125 > t127 then (laws_FnLevel.j2 k2 l0 t102 t106 true) else ((laws_likeInts.f k2 t136 t102).bind fun t146 => (if t146 = true then ((laws_likeInts.f k2 bt141.1 t102).bind fun t147 => (if t147 = true then (if t139 = 0 then (laws_FnLevel.j2 k2 l0 t102 t106 (bt141.2.1 != 0)) else (laws_FnLevel.j2 k2 l0 t102 t106 true)) else (laws_FnLevel.j2 k2 l0 t102 t106 true))) else (laws_FnLevel.j2 k2 l0 t102 t106 true)))) else (laws_FnLevel.j2 k2 l0 t102 t106 true)) else (laws_FnLevel.j2 k2 l0 t102 t106 true)) else (laws_FnLevel.j2 k2 l0 t102 t106 true)) else (laws_FnLevel.j2 k2 l0 t102 t106 true)) else (laws_FnLevel.j2 k2 l0 t102 t106 true))) = some r := H
                   have A57 := Aside0.mk A570
                   clear A570
                   replace H := Option.bind_eq_some_iff.mp H
                   obtain ⟨⟨t141, t144, t145⟩, A580, H⟩ := H
                   replace H : (if t126 = 0 then (if t128 = 0 then (if t140 = 0 then (if t145 = 0 then (if t125 = t106 then (if t125 > t127 then (laws_FnLevel.j2 k2 l0 t102 t106 true) else ((laws_likeInts.f k2 t136 t102).bind fun t146 => (if t146 = true then ((laws_likeInts.f k2 t141 t102).bind fun t147 => (if t147 = true then (if t139 = 0 then (laws_FnLevel.j2 k2 l0 t102 t106 (t144 != 0)) else (laws_FnLevel.j2 k2 l0 t102 t106 true)) else (laws_FnLevel.j2 k2 l0 t102 t106 true))) else (laws_FnLevel.j2 k2 l0 t102 t106 true)))) else (laws_FnLevel.j2 k2 l0 t102 t106 true)) else (laws_FnLevel.j2 k2 l0 t102 t106 true)) else (laws_FnLevel.j2 k2 l0 t102 t106 true)) else (laws_FnLevel.j2 k2 l0 t102 t106 true)) else (laws_FnLevel.j2 k2 l0 t102 t106 true)) = some r := H
                   have A58 := Aside0.mk A580
                   clear A580
                   have HC59 := Aside0.mk H
                   clear H
                   have hcz60_0 := zc BK132.out
                   have hfz60_0 := blk_frozen BK132.out 0
                   obtain ⟨Ao61, co61, eo61⟩ := Kd.R_slice HO_133000.out
                   subst eo61
                   go_upto_region 20 with (first | ((with_reducible refine gate_callee (f := 12) rfl ?_); refine goesL_ (some 137) rfl rfl Try.func12 zk rfl #[.agg #[.slice Ao61 x133000_2.length co61], .slice Ao42 t105.length co42] rfl zA ?_; (with_reducible refine (impl_SharesOf.calls k2 _ _ x133000_2 _ _ t105 t136 t139 t140 _ ?side1 ?side2 ?side3 ?side4 A57.out).mono ?_); (case side1 => exact zC (Kd.R_reads' HO_133000.out).2.2); (case side2 => exact (Kd.R_reads' HO_133000.out).2.1); (case side3 => exact zC (Kd.R_reads' HO_4.out).2.2); (case side4 => exact (Kd.R_reads' HO_4.out).2.1); rintro e w62 ⟨v137, rfl, ho0, hb⟩; refine ⟨_, rfl, ?_⟩; have n_ := y7 (Kd.R_elder' (zR HO_3.out) (Kd.R_base ho0) hb) (Kd.R_elder' (zR HO_4.out) (Kd.R_base ho0) hb) (Kd.R_elder' (zR HO_10.out) (Kd.R_base ho0) hb) (Kd.R_elder' (zR HO_133000.out) (Kd.R_base ho0) hb) (Kd.R_lower (Kd.R_new' (Kd.R_new' (Kd.R_new' (Kd.R_new' ho0 (Kd.R_lt (zR HO_3.out))) (Kd.R_lt (zR HO_4.out))) (Kd.R_lt (zR HO_10.out))) (Kd.R_lt (zR HO_133000.out))) (below_size (zB))) (zb BK132.out hb) (below_step (zB) hb); clear HO_3 HO_4 HO_10 HO_133000 BK132 HB; obtain ⟨HO_3, HO_4, HO_10, HO_133000, HO138, BK132, HB⟩ := n_; (try clear hb); (try clear hb2); (try clear hk); (try clear hi); (try clear ho0); have hcz63_0 := zc BK132.out; have hfz63_0 := blk_frozen BK132.out 0) | ((with_reducible refine gate_callee (f := 12) rfl ?_); refine goesL_ (some 144) rfl rfl Try.func12 zk rfl #[.agg #[.slice Ao61 x133000_2.length co61], .slice Ao44 t115.length co44] rfl zA ?_; (with_reducible refine (impl_SharesOf.calls k2 _ _ x133000_2 _ _ t115 t141 t144 t145 _ ?side1 ?side2 ?side3 ?side4 A58.out).mono ?_); (case side1 => exact zC (Kd.R_reads' HO_133000.out).2.2); (case side2 => exact (Kd.R_reads' HO_133000.out).2.1); (case side3 => exact zC (Kd.R_reads' HO_10.out).2.2); (case side4 => exact (Kd.R_reads' HO_10.out).2.1); rintro e w64 ⟨v142, rfl, ho0, hb⟩; refine ⟨_, rfl, ?_⟩; have n_ := y8 (Kd.R_elder' (zR HO_3.out) (Kd.R_base ho0) hb) (Kd.R_elder' (zR HO_4.out) (Kd.R_base ho0) hb) (Kd.R_elder' (zR HO_10.out) (Kd.R_base ho0) hb) (Kd.R_elder' (zR HO_133000.out) (Kd.R_base ho0) hb) (Kd.R_elder' (zR HO138.out) (Kd.R_base ho0) hb) (Kd.R_lower (Kd.R_new' (Kd.R_new' (Kd.R_new' (Kd.R_new' (Kd.R_new' ho0 (Kd.R_lt (zR HO_3.out))) (Kd.R_lt (zR HO_4.out))) (Kd.R_lt (zR HO_10.out))) (Kd.R_lt (zR HO_133000.out))) (Kd.R_lt (zR HO138.out))) (below_size (zB))) (zb BK132.out hb) (below_step (zB) hb); clear HO_3 HO_4 HO_10 HO_133000 HO138 BK132 HB; obtain ⟨HO_3, HO_4, HO_10, HO_133000, HO138, HO143, BK132, HB⟩ := n_; (try clear hb); (try clear hb2); (try clear hk); (try clear hi); (try clear ho0)))
                   (try simp only [Act.put, List.setIfInBounds_toArray, List.set_cons_zero, List.set_cons_succ])
                   go_cut [191] (fun v191 wc => ∃ (kq : Nat) (x191_58 : Bool), v191 = .bool x191_58 ∧ Aside0 (laws_FnLevel.j2 kq l0 t102 t106 x191_58 = some r) ∧ Aside0 (kq ≤ k2) ∧ Aside0 (Kd.R (Kd.int .i64) 2 wc w.heap.size (fun k_ => some k_ ≠ ((.slice Ao61 x133000_2.length co61) : Value).ownBlock) (.slice Ao11 t102.length co11) t102) ∧ Aside0 (Kd.R (Kd.int .i64) 2 wc w.heap.size (fun k_ => some k_ ≠ ((.slice Ao11 t102.length co11) : Value).ownBlock) (.slice Ao61 x133000_2.length co61) x133000_2) ∧ Aside0 (wc.heap[gb132]? = some (.cells #[(.slice Ao61 x133000_2.length co61)] 34 (0, 0))) ∧ Aside0 (Below w.heap.size w wc))
                   case first =>
                     as_aux_lemma =>
                      have H := HC59.out
                      clear HC59
                      by_cases c65 : t126 = 0
                      · rw [if_pos c65] at H
                        have c65b0 : (t126 == 0) = true := beq_iff_eq.mpr c65
                        have c65b1 : (t126 != 0) = false := bne_eq_false_iff_eq.mpr c65
                        clear c65
                        (first | rw [c65b0] | (simp only [i64_w, i32_w]; rw [c65b0]) | skip)
                        by_cases c66 : t128 = 0
                        · rw [if_pos c66] at H
                          have c66b0 : (t128 == 0) = true := beq_iff_eq.mpr c66
                          have c66b1 : (t128 != 0) = false := bne_eq_false_iff_eq.mpr c66
                          clear c66
                          by_cases c67 : t140 = 0
                          · rw [if_pos c67] at H
                            have c67b0 : (t140 == 0) = true := beq_iff_eq.mpr c67
                            have c67b1 : (t140 != 0) = false := bne_eq_false_iff_eq.mpr c67
                            clear c67
                            by_cases c68 : t145 = 0
                            · rw [if_pos c68] at H
                              have c68b0 : (t145 == 0) = true := beq_iff_eq.mpr c68
                              have c68b1 : (t145 != 0) = false := bne_eq_false_iff_eq.mpr c68
                              clear c68
                              by_cases c69 : t125 = t106
                              · rw [if_pos c69] at H
                                have c69b0 : (t125 == t106) = true := beq_iff_eq.mpr c69
                                have c69b1 : (t125 != t106) = false := bne_eq_false_iff_eq.mpr c69
                                clear c69
                                by_cases c70 : t125 > t127
                                · as_aux_lemma =>
                                   rw [if_pos c70] at H
                                   have c70b0 : decide (t127 < t125) = true := decide_eq_true c70
                                   clear c70
                                   have H' := Aside0.mk H
                                   clear H
                                   go_wp2
                                   go_meet
                                   case rel => exact ⟨_, (true), zF, H', ⟨by have := HJ8.out; have := HK2.out; first | omega | exact Nat.le_refl _⟩, ⟨by refine zR ?_; exact Kd.R_mono HO_3.out (fun _ hk => hk.1.1.2.2)⟩, ⟨by refine zR ?_; exact Kd.R_mono HO_133000.out (fun _ hk => hk.1.1.1)⟩, ⟨zG BK132.out⟩, ⟨zB⟩⟩
                                · rw [if_neg c70] at H
                                  have c70b0 : decide (t127 < t125) = false := decide_eq_false c70
                                  clear c70
                                  replace H := Option.bind_eq_some_iff.mp H
                                  obtain ⟨t146, A710, H⟩ := H
                                  replace H : (if t146 = true then ((laws_likeInts.f k2 t141 t102).bind fun t147 => (if t147 = true then (if t139 = 0 then (laws_FnLevel.j2 k2 l0 t102 t106 (t144 != 0)) else (laws_FnLevel.j2 k2 l0 t102 t106 true)) else (laws_FnLevel.j2 k2 l0 t102 t106 true))) else (laws_FnLevel.j2 k2 l0 t102 t106 true)) = some r := H
                                  have A71 := Aside0.mk A710
                                  clear A710
                                  by_cases c72 : t146 = true
                                  · subst c72
                                    have H1 : ((laws_likeInts.f k2 t141 t102).bind fun t147 => (if t147 = true then (if t139 = 0 then (laws_FnLevel.j2 k2 l0 t102 t106 (t144 != 0)) else (laws_FnLevel.j2 k2 l0 t102 t106 true)) else (laws_FnLevel.j2 k2 l0 t102 t106 true))) = some r := by rw [if_pos rfl] at H; exact H
                                    clear H
                                    have H := H1
                                    clear H1
                                    replace H := Option.bind_eq_some_iff.mp H
                                    obtain ⟨t147, A730, H⟩ := H
                                    replace H : (if t147 = true then (if t139 = 0 then (laws_FnLevel.j2 k2 l0 t102 t106 (t144 != 0)) else (laws_FnLevel.j2 k2 l0 t102 t106 true)) else (laws_FnLevel.j2 k2 l0 t102 t106 true)) = some r := H
                                    have A73 := Aside0.mk A730
                                    clear A730
                                    by_cases c74 : t147 = true
                                    · subst c74
                                      have H1 : (if t139 = 0 then (laws_FnLevel.j2 k2 l0 t102 t106 (t144 != 0)) else (laws_FnLevel.j2 k2 l0 t102 t106 true)) = some r := by rw [if_pos rfl] at H; exact H
                                      clear H
                                      have H := H1
                                      clear H1
                                      by_cases c75 : t139 = 0
                                      · as_aux_lemma =>
                                         rw [if_pos c75] at H
                                         have c75b0 : (t139 == 0) = true := beq_iff_eq.mpr c75
                                         have c75b1 : (t139 != 0) = false := bne_eq_false_iff_eq.mpr c75
                                         clear c75
                                         have H' := Aside0.mk H
                                         clear H
                                         obtain ⟨Ao76, co76, eo76⟩ := Kd.R_slice HO138.out
                                         subst eo76
                                         go_wp2_with (first | (go_at_call 10; (with_reducible refine (laws_likeInts.calls k2 _ _ t136 _ _ t102 true _ ?side1 ?side2 ?side3 ?side4 A71.out).mono ?_); (case side1 => exact zC (Kd.R_reads' HO138.out).2.2); (case side2 => exact (Kd.R_reads' HO138.out).2.1); (case side3 => exact zC (Kd.R_reads' HO_3.out).2.2); (case side4 => exact (Kd.R_reads' HO_3.out).2.1); rintro e w' ⟨rfl, ⟨nd, rfl⟩⟩; obtain ⟨Ao77, co77, eo77⟩ := Kd.R_slice HO143.out; subst eo77) | (go_at_call 10; (with_reducible refine (laws_likeInts.calls k2 _ _ t141 _ _ t102 true _ ?side1 ?side2 ?side3 ?side4 A73.out).mono ?_); (case side1 => exact zC (Kd.R_reads' HO143.out).2.2); (case side2 => exact (Kd.R_reads' HO143.out).2.1); (case side3 => exact zC (Kd.R_reads' HO_3.out).2.2); (case side4 => exact (Kd.R_reads' HO_3.out).2.1); rintro e w' ⟨rfl, ⟨nd, rfl⟩⟩))
                                         go_meet
                                         case rel => exact ⟨_, ((t144 != 0)), zF, H', ⟨by have := HJ8.out; have := HK2.out; first | omega | exact Nat.le_refl _⟩, ⟨by refine zR ?_; exact Kd.R_mono HO_3.out (fun _ hk => hk.1.1.2.2)⟩, ⟨by refine zR ?_; exact Kd.R_mono HO_133000.out (fun _ hk => hk.1.1.1)⟩, ⟨zG BK132.out⟩, ⟨zB⟩⟩
                                      · as_aux_lemma =>
                                         rw [if_neg c75] at H
                                         have c75b0 : (t139 == 0) = false := beq_eq_false_iff_ne.mpr c75
                                         have c75b1 : (t139 != 0) = true := bne_iff_ne.mpr c75
                                         have H' := Aside0.mk H
                                         clear H
                                         obtain ⟨Ao78, co78, eo78⟩ := Kd.R_slice HO138.out
                                         subst eo78
                                         go_wp2_with (first | (go_at_call 10; (with_reducible refine (laws_likeInts.calls k2 _ _ t136 _ _ t102 true _ ?side1 ?side2 ?side3 ?side4 A71.out).mono ?_); (case side1 => exact zC (Kd.R_reads' HO138.out).2.2); (case side2 => exact (Kd.R_reads' HO138.out).2.1); (case side3 => exact zC (Kd.R_reads' HO_3.out).2.2); (case side4 => exact (Kd.R_reads' HO_3.out).2.1); rintro e w' ⟨rfl, ⟨nd, rfl⟩⟩; obtain ⟨Ao79, co79, eo79⟩ := Kd.R_slice HO143.out; subst eo79) | (go_at_call 10; (with_reducible refine (laws_likeInts.calls k2 _ _ t141 _ _ t102 true _ ?side1 ?side2 ?side3 ?side4 A73.out).mono ?_); (case side1 => exact zC (Kd.R_reads' HO143.out).2.2); (case side2 => exact (Kd.R_reads' HO143.out).2.1); (case side3 => exact zC (Kd.R_reads' HO_3.out).2.2); (case side4 => exact (Kd.R_reads' HO_3.out).2.1); rintro e w' ⟨rfl, ⟨nd, rfl⟩⟩))
                                         go_meet
                                         case rel => exact ⟨_, (true), zF, H', ⟨by have := HJ8.out; have := HK2.out; first | omega | exact Nat.le_refl _⟩, ⟨by refine zR ?_; exact Kd.R_mono HO_3.out (fun _ hk => hk.1.1.2.2)⟩, ⟨by refine zR ?_; exact Kd.R_mono HO_133000.out (fun _ hk => hk.1.1.1)⟩, ⟨zG BK132.out⟩, ⟨zB⟩⟩
                                    · as_aux_lemma =>
                                       replace c74 := Bool.eq_false_iff.mpr c74
                                       subst c74
                                       have H1 : (laws_FnLevel.j2 k2 l0 t102 t106 true) = some r := by rw [if_neg (show ¬ (false = true) by decide)] at H; exact H
                                       clear H
                                       have H := H1
                                       clear H1
                                       have H' := Aside0.mk H
                                       clear H
                                       obtain ⟨Ao80, co80, eo80⟩ := Kd.R_slice HO138.out
                                       subst eo80
                                       go_wp2_with (first | (go_at_call 10; (with_reducible refine (laws_likeInts.calls k2 _ _ t136 _ _ t102 true _ ?side1 ?side2 ?side3 ?side4 A71.out).mono ?_); (case side1 => exact zC (Kd.R_reads' HO138.out).2.2); (case side2 => exact (Kd.R_reads' HO138.out).2.1); (case side3 => exact zC (Kd.R_reads' HO_3.out).2.2); (case side4 => exact (Kd.R_reads' HO_3.out).2.1); rintro e w' ⟨rfl, ⟨nd, rfl⟩⟩; obtain ⟨Ao81, co81, eo81⟩ := Kd.R_slice HO143.out; subst eo81) | (go_at_call 10; (with_reducible refine (laws_likeInts.calls k2 _ _ t141 _ _ t102 false _ ?side1 ?side2 ?side3 ?side4 A73.out).mono ?_); (case side1 => exact zC (Kd.R_reads' HO143.out).2.2); (case side2 => exact (Kd.R_reads' HO143.out).2.1); (case side3 => exact zC (Kd.R_reads' HO_3.out).2.2); (case side4 => exact (Kd.R_reads' HO_3.out).2.1); rintro e w' ⟨rfl, ⟨nd, rfl⟩⟩))
                                       go_meet
                                       case rel => exact ⟨_, (true), zF, H', ⟨by have := HJ8.out; have := HK2.out; first | omega | exact Nat.le_refl _⟩, ⟨by refine zR ?_; exact Kd.R_mono HO_3.out (fun _ hk => hk.1.1.2.2)⟩, ⟨by refine zR ?_; exact Kd.R_mono HO_133000.out (fun _ hk => hk.1.1.1)⟩, ⟨zG BK132.out⟩, ⟨zB⟩⟩
                                  · as_aux_lemma =>
                                     replace c72 := Bool.eq_false_iff.mpr c72
                                     subst c72
                                     have H1 : (laws_FnLevel.j2 k2 l0 t102 t106 true) = some r := by rw [if_neg (show ¬ (false = true) by decide)] at H; exact H
                                     clear H
                                     have H := H1
                                     clear H1
                                     have H' := Aside0.mk H
                                     clear H
                                     obtain ⟨Ao82, co82, eo82⟩ := Kd.R_slice HO138.out
                                     subst eo82
                                     go_wp2_with (first | (go_at_call 10; (with_reducible refine (laws_likeInts.calls k2 _ _ t136 _ _ t102 false _ ?side1 ?side2 ?side3 ?side4 A71.out).mono ?_); (case side1 => exact zC (Kd.R_reads' HO138.out).2.2); (case side2 => exact (Kd.R_reads' HO138.out).2.1); (case side3 => exact zC (Kd.R_reads' HO_3.out).2.2); (case side4 => exact (Kd.R_reads' HO_3.out).2.1); rintro e w' ⟨rfl, ⟨nd, rfl⟩⟩))
                                     go_meet
                                     case rel => exact ⟨_, (true), zF, H', ⟨by have := HJ8.out; have := HK2.out; first | omega | exact Nat.le_refl _⟩, ⟨by refine zR ?_; exact Kd.R_mono HO_3.out (fun _ hk => hk.1.1.2.2)⟩, ⟨by refine zR ?_; exact Kd.R_mono HO_133000.out (fun _ hk => hk.1.1.1)⟩, ⟨zG BK132.out⟩, ⟨zB⟩⟩
                              · as_aux_lemma =>
                                 rw [if_neg c69] at H
                                 have c69b0 : (t125 == t106) = false := beq_eq_false_iff_ne.mpr c69
                                 have c69b1 : (t125 != t106) = true := bne_iff_ne.mpr c69
                                 have H' := Aside0.mk H
                                 clear H
                                 go_wp2
                                 go_meet
                                 case rel => exact ⟨_, (true), zF, H', ⟨by have := HJ8.out; have := HK2.out; first | omega | exact Nat.le_refl _⟩, ⟨by refine zR ?_; exact Kd.R_mono HO_3.out (fun _ hk => hk.1.1.2.2)⟩, ⟨by refine zR ?_; exact Kd.R_mono HO_133000.out (fun _ hk => hk.1.1.1)⟩, ⟨zG BK132.out⟩, ⟨zB⟩⟩
                            · as_aux_lemma =>
                               rw [if_neg c68] at H
                               have c68b0 : (t145 == 0) = false := beq_eq_false_iff_ne.mpr c68
                               have c68b1 : (t145 != 0) = true := bne_iff_ne.mpr c68
                               have H' := Aside0.mk H
                               clear H
                               go_wp2
                               go_meet
                               case rel => exact ⟨_, (true), zF, H', ⟨by have := HJ8.out; have := HK2.out; first | omega | exact Nat.le_refl _⟩, ⟨by refine zR ?_; exact Kd.R_mono HO_3.out (fun _ hk => hk.1.1.2.2)⟩, ⟨by refine zR ?_; exact Kd.R_mono HO_133000.out (fun _ hk => hk.1.1.1)⟩, ⟨zG BK132.out⟩, ⟨zB⟩⟩
                          · as_aux_lemma =>
                             rw [if_neg c67] at H
                             have c67b0 : (t140 == 0) = false := beq_eq_false_iff_ne.mpr c67
                             have c67b1 : (t140 != 0) = true := bne_iff_ne.mpr c67
                             have H' := Aside0.mk H
                             clear H
                             go_wp2
                             go_meet
                             case rel => exact ⟨_, (true), zF, H', ⟨by have := HJ8.out; have := HK2.out; first | omega | exact Nat.le_refl _⟩, ⟨by refine zR ?_; exact Kd.R_mono HO_3.out (fun _ hk => hk.1.1.2.2)⟩, ⟨by refine zR ?_; exact Kd.R_mono HO_133000.out (fun _ hk => hk.1.1.1)⟩, ⟨zG BK132.out⟩, ⟨zB⟩⟩
                        · as_aux_lemma =>
                           rw [if_neg c66] at H
                           have c66b0 : (t128 == 0) = false := beq_eq_false_iff_ne.mpr c66
                           have c66b1 : (t128 != 0) = true := bne_iff_ne.mpr c66
                           have H' := Aside0.mk H
                           clear H
                           go_wp2
                           go_meet
                           case rel => exact ⟨_, (true), zF, H', ⟨by have := HJ8.out; have := HK2.out; first | omega | exact Nat.le_refl _⟩, ⟨by refine zR ?_; exact Kd.R_mono HO_3.out (fun _ hk => hk.1.1.2.2)⟩, ⟨by refine zR ?_; exact Kd.R_mono HO_133000.out (fun _ hk => hk.1.1.1)⟩, ⟨zG BK132.out⟩, ⟨zB⟩⟩
                      · as_aux_lemma =>
                         rw [if_neg c65] at H
                         have c65b0 : (t126 == 0) = false := beq_eq_false_iff_ne.mpr c65
                         have c65b1 : (t126 != 0) = true := bne_iff_ne.mpr c65
                         (first | rw [c65b0] | (simp only [i64_w, i32_w]; rw [c65b0]) | skip)
                         have H' := Aside0.mk H
                         clear H
                         go_wp2
                         go_meet
                         case rel => exact ⟨_, (true), zF, H', ⟨by have := HJ8.out; have := HK2.out; first | omega | exact Nat.le_refl _⟩, ⟨by refine zR ?_; exact Kd.R_mono HO_3.out (fun _ hk => hk.1.1.2.2)⟩, ⟨by refine zR ?_; exact Kd.R_mono HO_133000.out (fun _ hk => hk.1.1.1)⟩, ⟨zG BK132.out⟩, ⟨zB⟩⟩
                   case rest =>
                     as_aux_lemma =>
                      clear HC59
                      try clear c3
                      try clear c37
                      try clear c39
                      try clear c39b0
                      try clear c39b1
                      try clear c51
                      try clear c51b0
                      try clear hcz50_0
                      try clear hcz60_0
                      try clear hcz63_0
                      try clear hfz50_0
                      try clear hfz60_0
                      try clear hfz63_0
                      obtain ⟨kq, x191_58, rfl, HA, HJ58, HO_3, HO_133000, BK132, HB⟩ := hcut
                      cases kq with
                      | zero => exact absurd HA.out (by simp [laws_FnLevel.j2])
                      | succ kj58 =>
                        have H := HA.out
                        clear HA
                        simp only [laws_FnLevel.j2] at H
                        by_cases c83 : x191_58 = true
                        · subst c83
                          have H1 : (some false) = some r := by rw [if_pos rfl] at H; exact H
                          clear H
                          have H := H1
                          clear H1
                          obtain rfl := Option.some.inj H
                          go_wp2
                          go_ret
                          exact ⟨zE, zB⟩
                        · replace c83 := Bool.eq_false_iff.mpr c83
                          subst c83
                          have H1 : (if t106 > 0 then ((impl_DeadlineTurns.f kj58 t102 (wrap64 (t106 - 1))).bind fun bt148 => (if bt148.2 = 4 then (laws_FnLevel.j3 kj58 l0) else (some false))) else (laws_FnLevel.j3 kj58 l0)) = some r := by rw [if_neg (show ¬ (false = true) by decide)] at H; exact H
                          clear H
                          have H := H1
                          clear H1
                          by_cases c84 : t106 > 0
                          · rw [if_pos c84] at H
                            have c84b0 : decide (0 < t106) = true := decide_eq_true c84
                            clear c84
                            replace H := Option.bind_eq_some_iff.mp H
                            obtain ⟨⟨t148, t149⟩, A850, H⟩ := H
                            replace H : (if t149 = 4 then (laws_FnLevel.j3 kj58 l0) else (some false)) = some r := H
                            have A85 := Aside0.mk A850
                            clear A850
                            by_cases c86 : t149 = 4
                            · as_aux_lemma =>
                               rw [if_pos c86] at H
                               have c86b0 : (t149 == 4) = true := beq_iff_eq.mpr c86
                               have c86b1 : (t149 != 4) = false := bne_eq_false_iff_eq.mpr c86
                               clear c86
                               have H' := Aside0.mk H
                               clear H
                               go_wp2_with (first | ((with_reducible refine gate_callee (f := 13) rfl ?_); refine goesL_ (some 198) rfl rfl Try.func13 zk rfl #[.slice Ao11 t102.length co11, .int .i64 (wrap64 (t106 - 1))] rfl zA ?_; (with_reducible refine (impl_DeadlineTurns.calls kj58 _ _ t102 (wrap64 (t106 - 1)) t148 t149 _ ?side1 ?side2 A85.out).mono ?_); (case side1 => exact zC (Kd.R_reads' HO_3.out).2.2); (case side2 => exact (Kd.R_reads' HO_3.out).2.1); rintro e w87 ⟨v150, rfl, ho0, hb⟩; refine ⟨_, rfl, ?_⟩; have n_ := y5 (Kd.R_elder' (zR HO_3.out) (Kd.R_base ho0) hb) (Kd.R_elder' (zR HO_133000.out) (Kd.R_base ho0) hb) (Kd.R_lower (Kd.R_new' (Kd.R_new' ho0 (Kd.R_lt (zR HO_3.out))) (Kd.R_lt (zR HO_133000.out))) (below_size (zB))) (zb BK132.out hb) (below_step (zB) hb); clear HO_3 HO_133000 BK132 HB; obtain ⟨HO_3, HO_133000, HO151, BK132, HB⟩ := n_; (try clear hb); (try clear hb2); (try clear hk); (try clear hi); (try clear ho0)))
                               go_meet
                               case rel => exact ⟨_, H', ⟨by have := HJ8.out; have := HK2.out; have := HJ58.out; first | omega | exact Nat.le_refl _⟩, ⟨zB⟩⟩
                            · rw [if_neg c86] at H
                              have c86b0 : (t149 == 4) = false := beq_eq_false_iff_ne.mpr c86
                              have c86b1 : (t149 != 4) = true := bne_iff_ne.mpr c86
                              obtain rfl := Option.some.inj H
                              go_wp2_with (first | ((with_reducible refine gate_callee (f := 13) rfl ?_); refine goesL_ (some 198) rfl rfl Try.func13 zk rfl #[.slice Ao11 t102.length co11, .int .i64 (wrap64 (t106 - 1))] rfl zA ?_; (with_reducible refine (impl_DeadlineTurns.calls kj58 _ _ t102 (wrap64 (t106 - 1)) t148 t149 _ ?side1 ?side2 A85.out).mono ?_); (case side1 => exact zC (Kd.R_reads' HO_3.out).2.2); (case side2 => exact (Kd.R_reads' HO_3.out).2.1); rintro e w88 ⟨v150, rfl, ho0, hb⟩; refine ⟨_, rfl, ?_⟩; have n_ := y5 (Kd.R_elder' (zR HO_3.out) (Kd.R_base ho0) hb) (Kd.R_elder' (zR HO_133000.out) (Kd.R_base ho0) hb) (Kd.R_lower (Kd.R_new' (Kd.R_new' ho0 (Kd.R_lt (zR HO_3.out))) (Kd.R_lt (zR HO_133000.out))) (below_size (zB))) (zb BK132.out hb) (below_step (zB) hb); clear HO_3 HO_133000 BK132 HB; obtain ⟨HO_3, HO_133000, HO151, BK132, HB⟩ := n_; (try clear hb); (try clear hb2); (try clear hk); (try clear hi); (try clear ho0)))
                              go_ret
                              exact ⟨zE, zB⟩
                          · as_aux_lemma =>
                             rw [if_neg c84] at H
                             have c84b0 : decide (0 < t106) = false := decide_eq_false c84
                             clear c84
                             have H' := Aside0.mk H
                             clear H
                             go_wp2
                             go_meet
                             case rel => exact ⟨_, H', ⟨by have := HJ8.out; have := HK2.out; have := HJ58.out; first | omega | exact Nat.le_refl _⟩, ⟨zB⟩⟩
          · as_aux_lemma =>
             rw [if_neg c39] at H
             have c39b0 : (t107 == 0) = false := beq_eq_false_iff_ne.mpr c39
             have c39b1 : (t107 != 0) = true := bne_iff_ne.mpr c39
             (first | rw [c39b0] | (simp only [i64_w, i32_w]; rw [c39b0]) | skip)
             have H' := Aside0.mk H
             clear H
             go_wp2
             go_meet
             case rel => exact ⟨_, H', ⟨by have := HJ8.out; first | omega | exact Nat.le_refl _⟩, ⟨zB⟩⟩
       case rest =>
         as_aux_lemma =>
          clear HC38
          try clear c3
          try clear c37
          obtain ⟨kq, HA, HJ37, HB⟩ := hcut
          cases kq with
          | zero => exact absurd HA.out (by simp [laws_FnLevel.j3])
          | succ kj37 =>
            have H := HA.out
            clear HA
            simp only [laws_FnLevel.j3] at H
            replace H := Option.bind_eq_some_iff.mp H
            obtain ⟨⟨t152, t153⟩, A890, H⟩ := H
            replace H : ((impl_DeadlineTurns.f kj37 t152 t153).bind fun bt156 => ((spec_DeadlineTurns.f kj37 t152 t153).bind fun bt160 => (if bt156.2 = bt160.2 then ((laws_likeInts.f kj37 bt156.1 bt160.1).bind fun t164 => (laws_FnLevel.j4 kj37 l0 t153 bt156.1 bt156.2 (!t164))) else (laws_FnLevel.j4 kj37 l0 t153 bt156.1 bt156.2 true)))) = some r := H
            have A89 := Aside0.mk A890
            clear A890
            replace H := Option.bind_eq_some_iff.mp H
            obtain ⟨⟨t156, t157⟩, A900, H⟩ := H
            replace H : ((spec_DeadlineTurns.f kj37 t152 t153).bind fun bt160 => (if t157 = bt160.2 then ((laws_likeInts.f kj37 t156 bt160.1).bind fun t164 => (laws_FnLevel.j4 kj37 l0 t153 t156 t157 (!t164))) else (laws_FnLevel.j4 kj37 l0 t153 t156 t157 true))) = some r := H
            have A90 := Aside0.mk A900
            clear A900
            replace H := Option.bind_eq_some_iff.mp H
            obtain ⟨⟨t160, t161⟩, A910, H⟩ := H
            replace H : (if t157 = t161 then ((laws_likeInts.f kj37 t156 t160).bind fun t164 => (laws_FnLevel.j4 kj37 l0 t153 t156 t157 (!t164))) else (laws_FnLevel.j4 kj37 l0 t153 t156 t157 true)) = some r := H
            have A91 := Aside0.mk A910
            clear A910
            have HC92 := Aside0.mk H
            clear H
            go_upto_region 29 with (first | ((with_reducible refine gate_callee (f := 14) rfl ?_); refine goesL_ (some 205) rfl rfl Try.func14 zk rfl #[.slice A0 l0.length c0] rfl zA ?_; (with_reducible refine (spec_DrawDeadlineTurns.calls kj37 _ _ l0 t152 t153 _ ?side1 ?side2 A89.out).mono ?_); (case side1 => exact zC (Kd.C_below HR0.out HB.out)); (case side2 => exact HC0.out); rintro e w93 ⟨v154, rfl, ho0, hb⟩; refine ⟨_, rfl, ?_⟩; have n_ := y2 (Kd.R_lower ho0 (below_size (zB))) (below_step (zB) hb); clear HB; obtain ⟨HO155, HB⟩ := n_; (try clear hb); (try clear hb2); (try clear hk); (try clear hi); (try clear ho0); obtain ⟨Ao94, co94, eo94⟩ := Kd.R_slice HO155.out; subst eo94) | ((with_reducible refine gate_callee (f := 13) rfl ?_); refine goesL_ (some 211) rfl rfl Try.func13 zk rfl #[.slice Ao94 t152.length co94, .int .i64 t153] rfl zA ?_; (with_reducible refine (impl_DeadlineTurns.calls kj37 _ _ t152 t153 t156 t157 _ ?side1 ?side2 A90.out).mono ?_); (case side1 => exact zC (Kd.R_reads' HO155.out).2.2); (case side2 => exact (Kd.R_reads' HO155.out).2.1); rintro e w95 ⟨v158, rfl, ho0, hb⟩; refine ⟨_, rfl, ?_⟩; have n_ := y3 (Kd.R_elder' (zR HO155.out) (Kd.R_base ho0) hb) (Kd.R_lower (Kd.R_new' ho0 (Kd.R_lt (zR HO155.out))) (below_size (zB))) (below_step (zB) hb); clear HO155 HB; obtain ⟨HO155, HO159, HB⟩ := n_; (try clear hb); (try clear hb2); (try clear hk); (try clear hi); (try clear ho0)) | ((with_reducible refine gate_callee (f := 15) rfl ?_); refine goesL_ (some 217) rfl rfl Try.func15 zk rfl #[.slice Ao94 t152.length co94, .int .i64 t153] rfl zA ?_; (with_reducible refine (spec_DeadlineTurns.calls kj37 _ _ t152 t153 t160 t161 _ ?side1 ?side2 A91.out).mono ?_); (case side1 => exact zC (Kd.R_reads' HO155.out).2.2); (case side2 => exact (Kd.R_reads' HO155.out).2.1); rintro e w96 ⟨v162, rfl, ho0, hb⟩; refine ⟨_, rfl, ?_⟩; have n_ := y4 (Kd.R_elder' (zR HO155.out) (Kd.R_base ho0) hb) (Kd.R_elder' (zR HO159.out) (Kd.R_base ho0) hb) (Kd.R_lower (Kd.R_new' (Kd.R_new' ho0 (Kd.R_lt (zR HO155.out))) (Kd.R_lt (zR HO159.out))) (below_size (zB))) (below_step (zB) hb); clear HO155 HO159 HB; obtain ⟨HO155, HO159, HO163, HB⟩ := n_; (try clear hb); (try clear hb2); (try clear hk); (try clear hi); (try clear ho0)))
            (try simp only [Act.put, List.setIfInBounds_toArray, List.set_cons_zero, List.set_cons_succ])
            go_cut [228] (fun v228 wc => ∃ (kq : Nat) (x228_91 : Bool), v228 = .bool x228_91 ∧ Aside0 (laws_FnLevel.j4 kq l0 t153 t156 t157 x228_91 = some r) ∧ Aside0 (kq ≤ kj37) ∧ Aside0 (Kd.R (Kd.int .i64) 2 wc w.heap.size (fun _ => True) v158 t156) ∧ Aside0 (Below w.heap.size w wc))
            case first =>
              as_aux_lemma =>
               have H := HC92.out
               clear HC92
               by_cases c97 : t157 = t161
               · rw [if_pos c97] at H
                 have c97b0 : (t157 == t161) = true := beq_iff_eq.mpr c97
                 have c97b1 : (t157 != t161) = false := bne_eq_false_iff_eq.mpr c97
                 clear c97
                 (first | rw [c97b0] | (simp only [i64_w, i32_w]; rw [c97b0]) | skip)
                 replace H := Option.bind_eq_some_iff.mp H
                 obtain ⟨t164, A980, H⟩ := H
                 replace H : (laws_FnLevel.j4 kj37 l0 t153 t156 t157 (!t164)) = some r := H
                 have A98 := Aside0.mk A980
                 clear A980
                 have H' := Aside0.mk H
                 clear H
                 obtain ⟨Ao99, co99, eo99⟩ := Kd.R_slice HO159.out
                 subst eo99
                 obtain ⟨Ao100, co100, eo100⟩ := Kd.R_slice HO163.out
                 subst eo100
                 go_wp2_with (first | (go_at_call 10; (with_reducible refine (laws_likeInts.calls kj37 _ _ t156 _ _ t160 t164 _ ?side1 ?side2 ?side3 ?side4 A98.out).mono ?_); (case side1 => exact zC (Kd.R_reads' HO159.out).2.2); (case side2 => exact (Kd.R_reads' HO159.out).2.1); (case side3 => exact zC (Kd.R_reads' HO163.out).2.2); (case side4 => exact (Kd.R_reads' HO163.out).2.1); rintro e w' ⟨rfl, ⟨nd, rfl⟩⟩))
                 go_meet
                 case rel => exact ⟨_, (!t164), zF, H', ⟨by have := HJ8.out; have := HJ37.out; first | omega | exact Nat.le_refl _⟩, ⟨by refine zR ?_; exact Kd.R_mono HO159.out (fun _ hk => trivial)⟩, ⟨zB⟩⟩
               · rw [if_neg c97] at H
                 have c97b0 : (t157 == t161) = false := beq_eq_false_iff_ne.mpr c97
                 have c97b1 : (t157 != t161) = true := bne_iff_ne.mpr c97
                 (first | rw [c97b0] | (simp only [i64_w, i32_w]; rw [c97b0]) | skip)
                 have H' := Aside0.mk H
                 clear H
                 go_wp2
                 go_meet
                 case rel => exact ⟨_, (true), zF, H', ⟨by have := HJ8.out; have := HJ37.out; first | omega | exact Nat.le_refl _⟩, ⟨by refine zR ?_; exact Kd.R_mono HO159.out (fun _ hk => trivial)⟩, ⟨zB⟩⟩
            case rest =>
              as_aux_lemma =>
               clear HC92
               try clear c3
               try clear c37
               obtain ⟨kq, x228_91, rfl, HA, HJ91, HO_29, HB⟩ := hcut
               cases kq with
               | zero => exact absurd HA.out (by simp [laws_FnLevel.j4])
               | succ kj91 =>
                 have H := HA.out
                 clear HA
                 simp only [laws_FnLevel.j4] at H
                 by_cases c101 : x228_91 = true
                 · subst c101
                   have H1 : (some false) = some r := by rw [if_pos rfl] at H; exact H
                   clear H
                   have H := H1
                   clear H1
                   obtain rfl := Option.some.inj H
                   go_wp2
                   go_ret
                   exact ⟨zE, zB⟩
                 · replace c101 := Bool.eq_false_iff.mpr c101
                   subst c101
                   have H1 : (if t157 = 0 then ((impl_GreatestDifference.f kj91 t156).bind fun bt165 => (if bt165.2 = 0 then (if bt165.1 > t153 then (some false) else (laws_FnLevel.j5 kj91 l0)) else (some false))) else (laws_FnLevel.j5 kj91 l0)) = some r := by rw [if_neg (show ¬ (false = true) by decide)] at H; exact H
                   clear H
                   have H := H1
                   clear H1
                   have HC102 := Aside0.mk H
                   clear H
                   go_upto_if 230 with (fail)
                   go_cut [] (fun wc => ∃ (kq : Nat), Aside0 (laws_FnLevel.j5 kq l0 = some r) ∧ Aside0 (kq ≤ kj91) ∧ Aside0 (Below w.heap.size w wc))
                   case first =>
                     as_aux_lemma =>
                      have H := HC102.out
                      clear HC102
                      by_cases c103 : t157 = 0
                      · rw [if_pos c103] at H
                        have c103b0 : (t157 == 0) = true := beq_iff_eq.mpr c103
                        have c103b1 : (t157 != 0) = false := bne_eq_false_iff_eq.mpr c103
                        clear c103
                        (first | rw [c103b0] | (simp only [i64_w, i32_w]; rw [c103b0]) | skip)
                        replace H := Option.bind_eq_some_iff.mp H
                        obtain ⟨⟨t165, t166⟩, A1040, H⟩ := H
                        replace H : (if t166 = 0 then (if t165 > t153 then (some false) else (laws_FnLevel.j5 kj91 l0)) else (some false)) = some r := H
                        have A104 := Aside0.mk A1040
                        clear A1040
                        by_cases c105 : t166 = 0
                        · rw [if_pos c105] at H
                          have c105b0 : (t166 == 0) = true := beq_iff_eq.mpr c105
                          have c105b1 : (t166 != 0) = false := bne_eq_false_iff_eq.mpr c105
                          clear c105
                          by_cases c106 : t165 > t153
                          · rw [if_pos c106] at H
                            have c106b0 : decide (t153 < t165) = true := decide_eq_true c106
                            clear c106
                            obtain rfl := Option.some.inj H
                            obtain ⟨Ao107, co107, eo107⟩ := Kd.R_slice HO_29.out
                            subst eo107
                            go_wp2_with (first | ((with_reducible refine gate_callee (f := 11) rfl ?_); refine goesL_ (some 233) rfl rfl Try.func11 zk rfl #[.slice Ao107 t156.length co107] rfl zA ?_; (with_reducible refine (impl_GreatestDifference.calls kj91 _ _ t156 t165 t166 _ ?side1 ?side2 A104.out).mono ?_); (case side1 => exact zC (Kd.R_reads' HO_29.out).2.2); (case side2 => exact (Kd.R_reads' HO_29.out).2.1); rintro e w108 ⟨rfl, hb⟩; refine ⟨_, rfl, ?_⟩; have n_ := y2 (Kd.R_below (zR HO_29.out) hb) (below_step (zB) hb); clear HO_29 HB; obtain ⟨HO_29, HB⟩ := n_; (try clear hb); (try clear hb2); (try clear hk); (try clear hi)))
                            go_ret
                            exact ⟨zE, zB⟩
                          · rw [if_neg c106] at H
                            have c106b0 : decide (t153 < t165) = false := decide_eq_false c106
                            clear c106
                            have H' := Aside0.mk H
                            clear H
                            obtain ⟨Ao109, co109, eo109⟩ := Kd.R_slice HO_29.out
                            subst eo109
                            go_wp2_with (first | ((with_reducible refine gate_callee (f := 11) rfl ?_); refine goesL_ (some 233) rfl rfl Try.func11 zk rfl #[.slice Ao109 t156.length co109] rfl zA ?_; (with_reducible refine (impl_GreatestDifference.calls kj91 _ _ t156 t165 t166 _ ?side1 ?side2 A104.out).mono ?_); (case side1 => exact zC (Kd.R_reads' HO_29.out).2.2); (case side2 => exact (Kd.R_reads' HO_29.out).2.1); rintro e w110 ⟨rfl, hb⟩; refine ⟨_, rfl, ?_⟩; have n_ := y2 (Kd.R_below (zR HO_29.out) hb) (below_step (zB) hb); clear HO_29 HB; obtain ⟨HO_29, HB⟩ := n_; (try clear hb); (try clear hb2); (try clear hk); (try clear hi)))
                            go_meet
                            case rel => exact ⟨_, H', ⟨by have := HJ8.out; have := HJ37.out; have := HJ91.out; first | omega | exact Nat.le_refl _⟩, ⟨zB⟩⟩
                        · rw [if_neg c105] at H
                          have c105b0 : (t166 == 0) = false := beq_eq_false_iff_ne.mpr c105
                          have c105b1 : (t166 != 0) = true := bne_iff_ne.mpr c105
                          obtain rfl := Option.some.inj H
                          obtain ⟨Ao111, co111, eo111⟩ := Kd.R_slice HO_29.out
                          subst eo111
                          go_wp2_with (first | ((with_reducible refine gate_callee (f := 11) rfl ?_); refine goesL_ (some 233) rfl rfl Try.func11 zk rfl #[.slice Ao111 t156.length co111] rfl zA ?_; (with_reducible refine (impl_GreatestDifference.calls kj91 _ _ t156 t165 t166 _ ?side1 ?side2 A104.out).mono ?_); (case side1 => exact zC (Kd.R_reads' HO_29.out).2.2); (case side2 => exact (Kd.R_reads' HO_29.out).2.1); rintro e w112 ⟨rfl, hb⟩; refine ⟨_, rfl, ?_⟩; have n_ := y2 (Kd.R_below (zR HO_29.out) hb) (below_step (zB) hb); clear HO_29 HB; obtain ⟨HO_29, HB⟩ := n_; (try clear hb); (try clear hb2); (try clear hk); (try clear hi)))
                          go_ret
                          exact ⟨zE, zB⟩
                      · rw [if_neg c103] at H
                        have c103b0 : (t157 == 0) = false := beq_eq_false_iff_ne.mpr c103
                        have c103b1 : (t157 != 0) = true := bne_iff_ne.mpr c103
                        (first | rw [c103b0] | (simp only [i64_w, i32_w]; rw [c103b0]) | skip)
                        have H' := Aside0.mk H
                        clear H
                        go_wp2
                        go_meet
                        case rel => exact ⟨_, H', ⟨by have := HJ8.out; have := HJ37.out; have := HJ91.out; first | omega | exact Nat.le_refl _⟩, ⟨zB⟩⟩
                   case rest =>
                     as_aux_lemma =>
                      clear HC102
                      try clear c3
                      try clear c37
                      try clear c101
                      obtain ⟨kq, HA, HJ101, HB⟩ := hcut
                      cases kq with
                      | zero => exact absurd HA.out (by simp [laws_FnLevel.j5])
                      | succ kj101 =>
                        have H := HA.out
                        clear HA
                        simp only [laws_FnLevel.j5] at H
                        replace H := Option.bind_eq_some_iff.mp H
                        obtain ⟨t167, A1130, H⟩ := H
                        replace H : ((impl_DoubledTurns.f kj101 t167).bind fun bt168 => ((spec_DoubledTurns.f kj101 t167).bind fun bt172 => (if bt168.2 = bt172.2 then ((laws_likeInts.f kj101 bt168.1 bt172.1).bind fun t176 => (laws_FnLevel.j6 kj101 l0 t167 bt168.1 bt168.2 (!t176))) else (laws_FnLevel.j6 kj101 l0 t167 bt168.1 bt168.2 true)))) = some r := H
                        have A113 := Aside0.mk A1130
                        clear A1130
                        replace H := Option.bind_eq_some_iff.mp H
                        obtain ⟨⟨t168, t169⟩, A1140, H⟩ := H
                        replace H : ((spec_DoubledTurns.f kj101 t167).bind fun bt172 => (if t169 = bt172.2 then ((laws_likeInts.f kj101 t168 bt172.1).bind fun t176 => (laws_FnLevel.j6 kj101 l0 t167 t168 t169 (!t176))) else (laws_FnLevel.j6 kj101 l0 t167 t168 t169 true))) = some r := H
                        have A114 := Aside0.mk A1140
                        clear A1140
                        replace H := Option.bind_eq_some_iff.mp H
                        obtain ⟨⟨t172, t173⟩, A1150, H⟩ := H
                        replace H : (if t169 = t173 then ((laws_likeInts.f kj101 t168 t172).bind fun t176 => (laws_FnLevel.j6 kj101 l0 t167 t168 t169 (!t176))) else (laws_FnLevel.j6 kj101 l0 t167 t168 t169 true)) = some r := H
                        have A115 := Aside0.mk A1150
                        clear A1150
                        have HC116 := Aside0.mk H
                        clear H
                        go_upto_region 38 with (first | ((with_reducible refine gate_callee (f := 16) rfl ?_); refine goesL_ (some 244) rfl rfl Try.func16 zk rfl #[.slice A0 l0.length c0] rfl zA ?_; (with_reducible refine (spec_DrawDoubledTurns.calls kj101 _ _ l0 t167 _ ?side1 ?side2 A113.out).mono ?_); (case side1 => exact zC (Kd.C_below HR0.out HB.out)); (case side2 => exact HC0.out); rintro e w117 ⟨rfl, hb⟩; refine ⟨_, rfl, ?_⟩; replace HB := Aside0.mk (below_step (zB) hb); (try clear hb); (try clear hb2); (try clear hk); (try clear hi)) | ((with_reducible refine gate_callee (f := 17) rfl ?_); refine goesL_ (some 247) rfl rfl Try.func17 zk rfl #[.int .i64 t167] rfl zA ?_; (with_reducible refine (impl_DoubledTurns.calls kj101 t167 t168 t169 _ A114.out).mono ?_); rintro e w118 ⟨v170, rfl, ho0, hb⟩; refine ⟨_, rfl, ?_⟩; have n_ := y2 (Kd.R_lower ho0 (below_size (zB))) (below_step (zB) hb); clear HB; obtain ⟨HO171, HB⟩ := n_; (try clear hb); (try clear hb2); (try clear hk); (try clear hi); (try clear ho0)) | ((with_reducible refine gate_callee (f := 18) rfl ?_); refine goesL_ (some 252) rfl rfl Try.func18 zk rfl #[.int .i64 t167] rfl zA ?_; (with_reducible refine (spec_DoubledTurns.calls kj101 t167 t172 t173 _ A115.out).mono ?_); rintro e w119 ⟨v174, rfl, ho0, hb⟩; refine ⟨_, rfl, ?_⟩; have n_ := y3 (Kd.R_elder' (zR HO171.out) (Kd.R_base ho0) hb) (Kd.R_lower (Kd.R_new' ho0 (Kd.R_lt (zR HO171.out))) (below_size (zB))) (below_step (zB) hb); clear HO171 HB; obtain ⟨HO171, HO175, HB⟩ := n_; (try clear hb); (try clear hb2); (try clear hk); (try clear hi); (try clear ho0)))
                        (try simp only [Act.put, List.setIfInBounds_toArray, List.set_cons_zero, List.set_cons_succ])
                        go_cut [263] (fun v263 wc => ∃ (kq : Nat) (x263_115 : Bool), v263 = .bool x263_115 ∧ Aside0 (laws_FnLevel.j6 kq l0 t167 t168 t169 x263_115 = some r) ∧ Aside0 (kq ≤ kj101) ∧ Aside0 (Kd.R (Kd.int .i64) 2 wc w.heap.size (fun _ => True) v170 t168) ∧ Aside0 (Below w.heap.size w wc))
                        case first =>
                          as_aux_lemma =>
                           have H := HC116.out
                           clear HC116
                           by_cases c120 : t169 = t173
                           · rw [if_pos c120] at H
                             have c120b0 : (t169 == t173) = true := beq_iff_eq.mpr c120
                             have c120b1 : (t169 != t173) = false := bne_eq_false_iff_eq.mpr c120
                             clear c120
                             (first | rw [c120b0] | (simp only [i64_w, i32_w]; rw [c120b0]) | skip)
                             replace H := Option.bind_eq_some_iff.mp H
                             obtain ⟨t176, A1210, H⟩ := H
                             replace H : (laws_FnLevel.j6 kj101 l0 t167 t168 t169 (!t176)) = some r := H
                             have A121 := Aside0.mk A1210
                             clear A1210
                             have H' := Aside0.mk H
                             clear H
                             obtain ⟨Ao122, co122, eo122⟩ := Kd.R_slice HO171.out
                             subst eo122
                             obtain ⟨Ao123, co123, eo123⟩ := Kd.R_slice HO175.out
                             subst eo123
                             go_wp2_with (first | (go_at_call 10; (with_reducible refine (laws_likeInts.calls kj101 _ _ t168 _ _ t172 t176 _ ?side1 ?side2 ?side3 ?side4 A121.out).mono ?_); (case side1 => exact zC (Kd.R_reads' HO171.out).2.2); (case side2 => exact (Kd.R_reads' HO171.out).2.1); (case side3 => exact zC (Kd.R_reads' HO175.out).2.2); (case side4 => exact (Kd.R_reads' HO175.out).2.1); rintro e w' ⟨rfl, ⟨nd, rfl⟩⟩))
                             go_meet
                             case rel => exact ⟨_, (!t176), zF, H', ⟨by have := HJ8.out; have := HJ37.out; have := HJ91.out; have := HJ101.out; first | omega | exact Nat.le_refl _⟩, ⟨by refine zR ?_; exact Kd.R_mono HO171.out (fun _ hk => trivial)⟩, ⟨zB⟩⟩
                           · rw [if_neg c120] at H
                             have c120b0 : (t169 == t173) = false := beq_eq_false_iff_ne.mpr c120
                             have c120b1 : (t169 != t173) = true := bne_iff_ne.mpr c120
                             (first | rw [c120b0] | (simp only [i64_w, i32_w]; rw [c120b0]) | skip)
                             have H' := Aside0.mk H
                             clear H
                             go_wp2
                             go_meet
                             case rel => exact ⟨_, (true), zF, H', ⟨by have := HJ8.out; have := HJ37.out; have := HJ91.out; have := HJ101.out; first | omega | exact Nat.le_refl _⟩, ⟨by refine zR ?_; exact Kd.R_mono HO171.out (fun _ hk => trivial)⟩, ⟨zB⟩⟩
                        case rest =>
                          as_aux_lemma =>
                           clear HC116
                           try clear c3
                           try clear c37
                           try clear c101
                           obtain ⟨kq, x263_115, rfl, HA, HJ115, HO_36, HB⟩ := hcut
                           cases kq with
                           | zero => exact absurd HA.out (by simp [laws_FnLevel.j6])
                           | succ kj115 =>
                             have H := HA.out
                             clear HA
                             simp only [laws_FnLevel.j6] at H
                             by_cases c124 : x263_115 = true
                             · subst c124
                               have H1 : (some false) = some r := by rw [if_pos rfl] at H; exact H
                               clear H
                               have H := H1
                               clear H1
                               obtain rfl := Option.some.inj H
                               go_wp2
                               go_ret
                               exact ⟨zE, zB⟩
                             · replace c124 := Bool.eq_false_iff.mpr c124
                               subst c124
                               have H1 : (if t169 = 0 then ((impl_AreBalanced.f kj115 t168).bind fun bt177 => (if bt177.2 = 0 then (if bt177.1 = true then (if 0 ≤ (IntKind.u64.wrap (t167)) then (if (t168.length : Int) = (wrap64 ((shl .i64 1 (IntKind.u64.wrap (t167))) - 1)) then (laws_FnLevel.j7 kj115 l0) else (some false)) else (none)) else (some false)) else (some false))) else (laws_FnLevel.j7 kj115 l0)) = some r := by rw [if_neg (show ¬ (false = true) by decide)] at H; exact H
                               clear H
                               have H := H1
                               clear H1
                               have HC125 := Aside0.mk H
                               clear H
                               go_upto_if 265 with (fail)
                               go_cut [] (fun wc => ∃ (kq : Nat), Aside0 (laws_FnLevel.j7 kq l0 = some r) ∧ Aside0 (kq ≤ kj115) ∧ Aside0 (Below w.heap.size w wc))
                               case first =>
                                 as_aux_lemma =>
                                  have H := HC125.out
                                  clear HC125
                                  by_cases c126 : t169 = 0
                                  · rw [if_pos c126] at H
                                    have c126b0 : (t169 == 0) = true := beq_iff_eq.mpr c126
                                    have c126b1 : (t169 != 0) = false := bne_eq_false_iff_eq.mpr c126
                                    clear c126
                                    (first | rw [c126b0] | (simp only [i64_w, i32_w]; rw [c126b0]) | skip)
                                    replace H := Option.bind_eq_some_iff.mp H
                                    obtain ⟨⟨t177, t178⟩, A1270, H⟩ := H
                                    replace H : (if t178 = 0 then (if t177 = true then (if 0 ≤ (IntKind.u64.wrap (t167)) then (if (t168.length : Int) = (wrap64 ((shl .i64 1 (IntKind.u64.wrap (t167))) - 1)) then (laws_FnLevel.j7 kj115 l0) else (some false)) else (none)) else (some false)) else (some false)) = some r := H
                                    have A127 := Aside0.mk A1270
                                    clear A1270
                                    by_cases c128 : t178 = 0
                                    · rw [if_pos c128] at H
                                      have c128b0 : (t178 == 0) = true := beq_iff_eq.mpr c128
                                      have c128b1 : (t178 != 0) = false := bne_eq_false_iff_eq.mpr c128
                                      clear c128
                                      by_cases c129 : t177 = true
                                      · subst c129
                                        have H1 : (if 0 ≤ (IntKind.u64.wrap (t167)) then (if (t168.length : Int) = (wrap64 ((shl .i64 1 (IntKind.u64.wrap (t167))) - 1)) then (laws_FnLevel.j7 kj115 l0) else (some false)) else (none)) = some r := by rw [if_pos rfl] at H; exact H
                                        clear H
                                        have H := H1
                                        clear H1
                                        obtain ⟨ji130, hji130⟩ : ∃ j_ : Int, (IntKind.u64.wrap (t167)) = j_ := ⟨_, rfl⟩
                                        replace H : (if 0 ≤ (ji130) then (if (t168.length : Int) = (wrap64 ((shl .i64 1 (ji130)) - 1)) then (laws_FnLevel.j7 kj115 l0) else (some false)) else (none)) = some r := by first | (rw [hji130] at H; exact H) | (simp only [hji130] at H ⊢; exact H)
                                        (try rw [hji130] at A127)
                                        by_cases c131 : 0 ≤ (ji130)
                                        · rw [if_pos c131] at H
                                          have c131b0 := eq_true c131
                                          have c131b1 : decide (0 ≤ (ji130)) = true := decide_eq_true c131
                                          clear c131
                                          obtain ⟨ji132, hji132⟩ : ∃ j_ : Int, (shl .i64 1 (ji130)) = j_ := ⟨_, rfl⟩
                                          replace H : (if (t168.length : Int) = (wrap64 ((ji132) - 1)) then (laws_FnLevel.j7 kj115 l0) else (some false)) = some r := by first | (rw [hji132] at H; exact H) | (simp only [hji132] at H ⊢; exact H)
                                          (try rw [hji132] at A127)
                                          have hji132_ : (IntKind.i64.wrap (1 * 2 ^ min (ji130).toNat 64)) = ji132 := hji132
                                          have hji132z : (ji130) ≤ 64 → (IntKind.i64.wrap (1 * 2 ^ (ji130).toNat)) = ji132 := shl_small hji132
                                          have hji132u : (IntKind.i64.wrap (2 ^ min (ji130).toNat 64)) = ji132 := by have h_ := hji132_; rw [Int.one_mul] at h_; exact h_
                                          have hji132v : (ji130) ≤ 64 → (IntKind.i64.wrap (2 ^ (ji130).toNat)) = ji132 := fun hle_ => by have h_ := hji132z hle_; rw [Int.one_mul] at h_; exact h_
                                          have hji132y : (wrap64 (1 * 2 ^ min (ji130).toNat 64)) = ji132 := (i64_w _).symm.trans hji132_
                                          have hji132x : (ji130) ≤ 64 → (wrap64 (1 * 2 ^ (ji130).toNat)) = ji132 := fun h_ => (i64_w _).symm.trans (hji132z h_)
                                          by_cases c133 : (t168.length : Int) = (wrap64 ((ji132) - 1))
                                          · rw [if_pos c133] at H
                                            have c133b0 : ((t168.length : Int) == (wrap64 ((ji132) - 1))) = true := beq_iff_eq.mpr c133
                                            have c133b1 : ((t168.length : Int) != (wrap64 ((ji132) - 1))) = false := bne_eq_false_iff_eq.mpr c133
                                            clear c133
                                            have H' := Aside0.mk H
                                            clear H
                                            obtain ⟨Ao134, co134, eo134⟩ := Kd.R_slice HO_36.out
                                            subst eo134
                                            go_wp2_with (first | ((with_reducible refine gate_callee (f := 19) rfl ?_); refine goesL_ (some 268) rfl rfl Try.func19 zk rfl #[.slice Ao134 t168.length co134] rfl zA ?_; (with_reducible refine (impl_AreBalanced.calls kj115 _ _ t168 true t178 _ ?side1 ?side2 A127.out).mono ?_); (case side1 => exact zC (Kd.R_reads' HO_36.out).2.2); (case side2 => exact (Kd.R_reads' HO_36.out).2.1); rintro e w135 ⟨rfl, hb⟩; refine ⟨_, rfl, ?_⟩; have n_ := y2 (Kd.R_below (zR HO_36.out) hb) (below_step (zB) hb); clear HO_36 HB; obtain ⟨HO_36, HB⟩ := n_; (try clear hb); (try clear hb2); (try clear hk); (try clear hi)))
                                            go_meet
                                            case rel => exact ⟨_, H', ⟨by have := HJ8.out; have := HJ37.out; have := HJ91.out; have := HJ101.out; have := HJ115.out; first | omega | exact Nat.le_refl _⟩, ⟨zB⟩⟩
                                          · rw [if_neg c133] at H
                                            have c133b0 : ((t168.length : Int) == (wrap64 ((ji132) - 1))) = false := beq_eq_false_iff_ne.mpr c133
                                            have c133b1 : ((t168.length : Int) != (wrap64 ((ji132) - 1))) = true := bne_iff_ne.mpr c133
                                            obtain rfl := Option.some.inj H
                                            obtain ⟨Ao136, co136, eo136⟩ := Kd.R_slice HO_36.out
                                            subst eo136
                                            go_wp2_with (first | ((with_reducible refine gate_callee (f := 19) rfl ?_); refine goesL_ (some 268) rfl rfl Try.func19 zk rfl #[.slice Ao136 t168.length co136] rfl zA ?_; (with_reducible refine (impl_AreBalanced.calls kj115 _ _ t168 true t178 _ ?side1 ?side2 A127.out).mono ?_); (case side1 => exact zC (Kd.R_reads' HO_36.out).2.2); (case side2 => exact (Kd.R_reads' HO_36.out).2.1); rintro e w137 ⟨rfl, hb⟩; refine ⟨_, rfl, ?_⟩; have n_ := y2 (Kd.R_below (zR HO_36.out) hb) (below_step (zB) hb); clear HO_36 HB; obtain ⟨HO_36, HB⟩ := n_; (try clear hb); (try clear hb2); (try clear hk); (try clear hi)))
                                            go_ret
                                            exact ⟨by first | rfl | (simp [errW_none, errW_some] <;> rfl) | (simp only [← hji130, ← hji132]; first | rfl | (simp [errW_none, errW_some] <;> rfl)) | (simp [*, errW_none, errW_some] <;> rfl), zB⟩
                                        · rw [if_neg c131] at H
                                          exact absurd H (by simp)
                                      · replace c129 := Bool.eq_false_iff.mpr c129
                                        subst c129
                                        have H1 : (some false) = some r := by rw [if_neg (show ¬ (false = true) by decide)] at H; exact H
                                        clear H
                                        have H := H1
                                        clear H1
                                        obtain rfl := Option.some.inj H
                                        obtain ⟨Ao138, co138, eo138⟩ := Kd.R_slice HO_36.out
                                        subst eo138
                                        go_wp2_with (first | ((with_reducible refine gate_callee (f := 19) rfl ?_); refine goesL_ (some 268) rfl rfl Try.func19 zk rfl #[.slice Ao138 t168.length co138] rfl zA ?_; (with_reducible refine (impl_AreBalanced.calls kj115 _ _ t168 false t178 _ ?side1 ?side2 A127.out).mono ?_); (case side1 => exact zC (Kd.R_reads' HO_36.out).2.2); (case side2 => exact (Kd.R_reads' HO_36.out).2.1); rintro e w139 ⟨rfl, hb⟩; refine ⟨_, rfl, ?_⟩; have n_ := y2 (Kd.R_below (zR HO_36.out) hb) (below_step (zB) hb); clear HO_36 HB; obtain ⟨HO_36, HB⟩ := n_; (try clear hb); (try clear hb2); (try clear hk); (try clear hi)))
                                        go_ret
                                        exact ⟨zE, zB⟩
                                    · rw [if_neg c128] at H
                                      have c128b0 : (t178 == 0) = false := beq_eq_false_iff_ne.mpr c128
                                      have c128b1 : (t178 != 0) = true := bne_iff_ne.mpr c128
                                      obtain rfl := Option.some.inj H
                                      obtain ⟨Ao140, co140, eo140⟩ := Kd.R_slice HO_36.out
                                      subst eo140
                                      go_wp2_with (first | ((with_reducible refine gate_callee (f := 19) rfl ?_); refine goesL_ (some 268) rfl rfl Try.func19 zk rfl #[.slice Ao140 t168.length co140] rfl zA ?_; (with_reducible refine (impl_AreBalanced.calls kj115 _ _ t168 t177 t178 _ ?side1 ?side2 A127.out).mono ?_); (case side1 => exact zC (Kd.R_reads' HO_36.out).2.2); (case side2 => exact (Kd.R_reads' HO_36.out).2.1); rintro e w141 ⟨rfl, hb⟩; refine ⟨_, rfl, ?_⟩; have n_ := y2 (Kd.R_below (zR HO_36.out) hb) (below_step (zB) hb); clear HO_36 HB; obtain ⟨HO_36, HB⟩ := n_; (try clear hb); (try clear hb2); (try clear hk); (try clear hi)))
                                      go_ret
                                      exact ⟨zE, zB⟩
                                  · rw [if_neg c126] at H
                                    have c126b0 : (t169 == 0) = false := beq_eq_false_iff_ne.mpr c126
                                    have c126b1 : (t169 != 0) = true := bne_iff_ne.mpr c126
                                    (first | rw [c126b0] | (simp only [i64_w, i32_w]; rw [c126b0]) | skip)
                                    have H' := Aside0.mk H
                                    clear H
                                    go_wp2
                                    go_meet
                                    case rel => exact ⟨_, H', ⟨by have := HJ8.out; have := HJ37.out; have := HJ91.out; have := HJ101.out; have := HJ115.out; first | omega | exact Nat.le_refl _⟩, ⟨zB⟩⟩
                               case rest =>
                                 as_aux_lemma =>
                                  clear HC125
                                  try clear c3
                                  try clear c37
                                  try clear c101
                                  try clear c124
                                  obtain ⟨kq, HA, HJ124, HB⟩ := hcut
                                  cases kq with
                                  | zero => exact absurd HA.out (by simp [laws_FnLevel.j7])
                                  | succ kj124 =>
                                    have H := HA.out
                                    clear HA
                                    simp only [laws_FnLevel.j7] at H
                                    replace H := Option.bind_eq_some_iff.mp H
                                    obtain ⟨t179, A1420, H⟩ := H
                                    replace H : ((impl_AreBalanced.f kj124 t179).bind fun bt182 => ((spec_AreBalanced.f kj124 t179).bind fun bt184 => ((spec_DrawDifferenceAt.f kj124 l0).bind fun bt186 => ((impl_DifferenceAt.f kj124 bt186.1 bt186.2.1 bt186.2.2).bind fun bt191 => ((spec_DifferenceAt.f kj124 bt186.1 bt186.2.1 bt186.2.2).bind fun bt193 => (if bt182.2 = bt184.2 then (if (bt182.1 == bt184.1) = true then (if bt191.2 = bt193.2 then (some (bt191.1 == bt193.1)) else (some false)) else (some false)) else (some false))))))) = some r := H
                                    have A142 := Aside0.mk A1420
                                    clear A1420
                                    replace H := Option.bind_eq_some_iff.mp H
                                    obtain ⟨⟨t182, t183⟩, A1430, H⟩ := H
                                    replace H : ((spec_AreBalanced.f kj124 t179).bind fun bt184 => ((spec_DrawDifferenceAt.f kj124 l0).bind fun bt186 => ((impl_DifferenceAt.f kj124 bt186.1 bt186.2.1 bt186.2.2).bind fun bt191 => ((spec_DifferenceAt.f kj124 bt186.1 bt186.2.1 bt186.2.2).bind fun bt193 => (if t183 = bt184.2 then (if (t182 == bt184.1) = true then (if bt191.2 = bt193.2 then (some (bt191.1 == bt193.1)) else (some false)) else (some false)) else (some false)))))) = some r := H
                                    have A143 := Aside0.mk A1430
                                    clear A1430
                                    replace H := Option.bind_eq_some_iff.mp H
                                    obtain ⟨⟨t184, t185⟩, A1440, H⟩ := H
                                    replace H : ((spec_DrawDifferenceAt.f kj124 l0).bind fun bt186 => ((impl_DifferenceAt.f kj124 bt186.1 bt186.2.1 bt186.2.2).bind fun bt191 => ((spec_DifferenceAt.f kj124 bt186.1 bt186.2.1 bt186.2.2).bind fun bt193 => (if t183 = t185 then (if (t182 == t184) = true then (if bt191.2 = bt193.2 then (some (bt191.1 == bt193.1)) else (some false)) else (some false)) else (some false))))) = some r := H
                                    have A144 := Aside0.mk A1440
                                    clear A1440
                                    replace H := Option.bind_eq_some_iff.mp H
                                    obtain ⟨⟨t186, t187, t188⟩, A1450, H⟩ := H
                                    replace H : ((impl_DifferenceAt.f kj124 t186 t187 t188).bind fun bt191 => ((spec_DifferenceAt.f kj124 t186 t187 t188).bind fun bt193 => (if t183 = t185 then (if (t182 == t184) = true then (if bt191.2 = bt193.2 then (some (bt191.1 == bt193.1)) else (some false)) else (some false)) else (some false)))) = some r := H
                                    have A145 := Aside0.mk A1450
                                    clear A1450
                                    replace H := Option.bind_eq_some_iff.mp H
                                    obtain ⟨⟨t191, t192⟩, A1460, H⟩ := H
                                    replace H : ((spec_DifferenceAt.f kj124 t186 t187 t188).bind fun bt193 => (if t183 = t185 then (if (t182 == t184) = true then (if t192 = bt193.2 then (some (t191 == bt193.1)) else (some false)) else (some false)) else (some false))) = some r := H
                                    have A146 := Aside0.mk A1460
                                    clear A1460
                                    replace H := Option.bind_eq_some_iff.mp H
                                    obtain ⟨⟨t193, t194⟩, A1470, H⟩ := H
                                    replace H : (if t183 = t185 then (if (t182 == t184) = true then (if t192 = t194 then (some (t191 == t193)) else (some false)) else (some false)) else (some false)) = some r := H
                                    have A147 := Aside0.mk A1470
                                    clear A1470
                                    by_cases c148 : t183 = t185
                                    · rw [if_pos c148] at H
                                      have c148b0 : (t183 == t185) = true := beq_iff_eq.mpr c148
                                      have c148b1 : (t183 != t185) = false := bne_eq_false_iff_eq.mpr c148
                                      clear c148
                                      by_cases c149 : (t182 == t184) = true
                                      · rw [if_pos c149] at H
                                        have c149b0 : (t182 == t184) = true := c149
                                        (try (have c149b1 : decide (t182 = t184) = true := by simpa using c149))
                                        (try (have c149b2 : (t182 == t184) = true := by simpa using c149))
                                        clear c149
                                        by_cases c150 : t192 = t194
                                        · rw [if_pos c150] at H
                                          have c150b0 : (t192 == t194) = true := beq_iff_eq.mpr c150
                                          have c150b1 : (t192 != t194) = false := bne_eq_false_iff_eq.mpr c150
                                          clear c150
                                          obtain rfl := Option.some.inj H
                                          go_wp2_with (first | ((with_reducible refine gate_callee (f := 20) rfl ?_); refine goesL_ (some 287) rfl rfl Try.func20 zk rfl #[.slice A0 l0.length c0] rfl zA ?_; (with_reducible refine (spec_DrawAreBalanced.calls kj124 _ _ l0 t179 _ ?side1 ?side2 A142.out).mono ?_); (case side1 => exact zC (Kd.C_below HR0.out HB.out)); (case side2 => exact HC0.out); rintro e w151 ⟨v180, rfl, ho0, hb⟩; refine ⟨_, rfl, ?_⟩; have n_ := y2 (Kd.R_lower ho0 (below_size (zB))) (below_step (zB) hb); clear HB; obtain ⟨HO181, HB⟩ := n_; (try clear hb); (try clear hb2); (try clear hk); (try clear hi); (try clear ho0); obtain ⟨Ao152, co152, eo152⟩ := Kd.R_slice HO181.out; subst eo152) | ((with_reducible refine gate_callee (f := 19) rfl ?_); refine goesL_ (some 290) rfl rfl Try.func19 zk rfl #[.slice Ao152 t179.length co152] rfl zA ?_; (with_reducible refine (impl_AreBalanced.calls kj124 _ _ t179 t182 t183 _ ?side1 ?side2 A143.out).mono ?_); (case side1 => exact zC (Kd.R_reads' HO181.out).2.2); (case side2 => exact (Kd.R_reads' HO181.out).2.1); rintro e w153 ⟨rfl, hb⟩; refine ⟨_, rfl, ?_⟩; have n_ := y2 (Kd.R_below (zR HO181.out) hb) (below_step (zB) hb); clear HO181 HB; obtain ⟨HO181, HB⟩ := n_; (try clear hb); (try clear hb2); (try clear hk); (try clear hi)) | ((with_reducible refine gate_callee (f := 21) rfl ?_); refine goesL_ (some 295) rfl rfl Try.func21 zk rfl #[.slice Ao152 t179.length co152] rfl zA ?_; (with_reducible refine (spec_AreBalanced.calls kj124 _ _ t179 t184 t185 _ ?side1 ?side2 A144.out).mono ?_); (case side1 => exact zC (Kd.R_reads' HO181.out).2.2); (case side2 => exact (Kd.R_reads' HO181.out).2.1); rintro e w154 ⟨rfl, hb⟩; refine ⟨_, rfl, ?_⟩; have n_ := y2 (Kd.R_below (zR HO181.out) hb) (below_step (zB) hb); clear HO181 HB; obtain ⟨HO181, HB⟩ := n_; (try clear hb); (try clear hb2); (try clear hk); (try clear hi)) | ((with_reducible refine gate_callee (f := 22) rfl ?_); refine goesL_ (some 300) rfl rfl Try.func22 zk rfl #[.slice A0 l0.length c0] rfl zA ?_; (with_reducible refine (spec_DrawDifferenceAt.calls kj124 _ _ l0 t186 t187 t188 _ ?side1 ?side2 A145.out).mono ?_); (case side1 => exact zC (Kd.C_below HR0.out HB.out)); (case side2 => exact HC0.out); rintro e w155 ⟨v189, rfl, ho0, hb⟩; refine ⟨_, rfl, ?_⟩; have n_ := y3 (Kd.R_elder' (zR HO181.out) (Kd.R_base ho0) hb) (Kd.R_lower (Kd.R_new' ho0 (Kd.R_lt (zR HO181.out))) (below_size (zB))) (below_step (zB) hb); clear HO181 HB; obtain ⟨HO181, HO190, HB⟩ := n_; (try clear hb); (try clear hb2); (try clear hk); (try clear hi); (try clear ho0); obtain ⟨Ao156, co156, eo156⟩ := Kd.R_slice HO190.out; subst eo156) | ((with_reducible refine gate_callee (f := 23) rfl ?_); refine goesL_ (some 308) rfl rfl Try.func23 zk rfl #[.slice Ao156 t186.length co156, .int .i64 t187, .int .i64 t188] rfl zA ?_; (with_reducible refine (impl_DifferenceAt.calls kj124 _ _ t186 t187 t188 t191 t192 _ ?side1 ?side2 A146.out).mono ?_); (case side1 => exact zC (Kd.R_reads' HO190.out).2.2); (case side2 => exact (Kd.R_reads' HO190.out).2.1); rintro e w157 ⟨rfl, hb⟩; refine ⟨_, rfl, ?_⟩; have n_ := y3 (Kd.R_below (zR HO181.out) hb) (Kd.R_below (zR HO190.out) hb) (below_step (zB) hb); clear HO181 HO190 HB; obtain ⟨HO181, HO190, HB⟩ := n_; (try clear hb); (try clear hb2); (try clear hk); (try clear hi)) | ((with_reducible refine gate_callee (f := 24) rfl ?_); refine goesL_ (some 315) rfl rfl Try.func24 zk rfl #[.slice Ao156 t186.length co156, .int .i64 t187, .int .i64 t188] rfl zA ?_; (with_reducible refine (spec_DifferenceAt.calls kj124 _ _ t186 t187 t188 t193 t194 _ ?side1 ?side2 A147.out).mono ?_); (case side1 => exact zC (Kd.R_reads' HO190.out).2.2); (case side2 => exact (Kd.R_reads' HO190.out).2.1); rintro e w158 ⟨rfl, hb⟩; refine ⟨_, rfl, ?_⟩; have n_ := y3 (Kd.R_below (zR HO181.out) hb) (Kd.R_below (zR HO190.out) hb) (below_step (zB) hb); clear HO181 HO190 HB; obtain ⟨HO181, HO190, HB⟩ := n_; (try clear hb); (try clear hb2); (try clear hk); (try clear hi)))
                                          go_ret
                                          exact ⟨zE, zB⟩
                                        · rw [if_neg c150] at H
                                          have c150b0 : (t192 == t194) = false := beq_eq_false_iff_ne.mpr c150
                                          have c150b1 : (t192 != t194) = true := bne_iff_ne.mpr c150
                                          obtain rfl := Option.some.inj H
                                          go_wp2_with (first | ((with_reducible refine gate_callee (f := 20) rfl ?_); refine goesL_ (some 287) rfl rfl Try.func20 zk rfl #[.slice A0 l0.length c0] rfl zA ?_; (with_reducible refine (spec_DrawAreBalanced.calls kj124 _ _ l0 t179 _ ?side1 ?side2 A142.out).mono ?_); (case side1 => exact zC (Kd.C_below HR0.out HB.out)); (case side2 => exact HC0.out); rintro e w159 ⟨v180, rfl, ho0, hb⟩; refine ⟨_, rfl, ?_⟩; have n_ := y2 (Kd.R_lower ho0 (below_size (zB))) (below_step (zB) hb); clear HB; obtain ⟨HO181, HB⟩ := n_; (try clear hb); (try clear hb2); (try clear hk); (try clear hi); (try clear ho0); obtain ⟨Ao160, co160, eo160⟩ := Kd.R_slice HO181.out; subst eo160) | ((with_reducible refine gate_callee (f := 19) rfl ?_); refine goesL_ (some 290) rfl rfl Try.func19 zk rfl #[.slice Ao160 t179.length co160] rfl zA ?_; (with_reducible refine (impl_AreBalanced.calls kj124 _ _ t179 t182 t183 _ ?side1 ?side2 A143.out).mono ?_); (case side1 => exact zC (Kd.R_reads' HO181.out).2.2); (case side2 => exact (Kd.R_reads' HO181.out).2.1); rintro e w161 ⟨rfl, hb⟩; refine ⟨_, rfl, ?_⟩; have n_ := y2 (Kd.R_below (zR HO181.out) hb) (below_step (zB) hb); clear HO181 HB; obtain ⟨HO181, HB⟩ := n_; (try clear hb); (try clear hb2); (try clear hk); (try clear hi)) | ((with_reducible refine gate_callee (f := 21) rfl ?_); refine goesL_ (some 295) rfl rfl Try.func21 zk rfl #[.slice Ao160 t179.length co160] rfl zA ?_; (with_reducible refine (spec_AreBalanced.calls kj124 _ _ t179 t184 t185 _ ?side1 ?side2 A144.out).mono ?_); (case side1 => exact zC (Kd.R_reads' HO181.out).2.2); (case side2 => exact (Kd.R_reads' HO181.out).2.1); rintro e w162 ⟨rfl, hb⟩; refine ⟨_, rfl, ?_⟩; have n_ := y2 (Kd.R_below (zR HO181.out) hb) (below_step (zB) hb); clear HO181 HB; obtain ⟨HO181, HB⟩ := n_; (try clear hb); (try clear hb2); (try clear hk); (try clear hi)) | ((with_reducible refine gate_callee (f := 22) rfl ?_); refine goesL_ (some 300) rfl rfl Try.func22 zk rfl #[.slice A0 l0.length c0] rfl zA ?_; (with_reducible refine (spec_DrawDifferenceAt.calls kj124 _ _ l0 t186 t187 t188 _ ?side1 ?side2 A145.out).mono ?_); (case side1 => exact zC (Kd.C_below HR0.out HB.out)); (case side2 => exact HC0.out); rintro e w163 ⟨v189, rfl, ho0, hb⟩; refine ⟨_, rfl, ?_⟩; have n_ := y3 (Kd.R_elder' (zR HO181.out) (Kd.R_base ho0) hb) (Kd.R_lower (Kd.R_new' ho0 (Kd.R_lt (zR HO181.out))) (below_size (zB))) (below_step (zB) hb); clear HO181 HB; obtain ⟨HO181, HO190, HB⟩ := n_; (try clear hb); (try clear hb2); (try clear hk); (try clear hi); (try clear ho0); obtain ⟨Ao164, co164, eo164⟩ := Kd.R_slice HO190.out; subst eo164) | ((with_reducible refine gate_callee (f := 23) rfl ?_); refine goesL_ (some 308) rfl rfl Try.func23 zk rfl #[.slice Ao164 t186.length co164, .int .i64 t187, .int .i64 t188] rfl zA ?_; (with_reducible refine (impl_DifferenceAt.calls kj124 _ _ t186 t187 t188 t191 t192 _ ?side1 ?side2 A146.out).mono ?_); (case side1 => exact zC (Kd.R_reads' HO190.out).2.2); (case side2 => exact (Kd.R_reads' HO190.out).2.1); rintro e w165 ⟨rfl, hb⟩; refine ⟨_, rfl, ?_⟩; have n_ := y3 (Kd.R_below (zR HO181.out) hb) (Kd.R_below (zR HO190.out) hb) (below_step (zB) hb); clear HO181 HO190 HB; obtain ⟨HO181, HO190, HB⟩ := n_; (try clear hb); (try clear hb2); (try clear hk); (try clear hi)) | ((with_reducible refine gate_callee (f := 24) rfl ?_); refine goesL_ (some 315) rfl rfl Try.func24 zk rfl #[.slice Ao164 t186.length co164, .int .i64 t187, .int .i64 t188] rfl zA ?_; (with_reducible refine (spec_DifferenceAt.calls kj124 _ _ t186 t187 t188 t193 t194 _ ?side1 ?side2 A147.out).mono ?_); (case side1 => exact zC (Kd.R_reads' HO190.out).2.2); (case side2 => exact (Kd.R_reads' HO190.out).2.1); rintro e w166 ⟨rfl, hb⟩; refine ⟨_, rfl, ?_⟩; have n_ := y3 (Kd.R_below (zR HO181.out) hb) (Kd.R_below (zR HO190.out) hb) (below_step (zB) hb); clear HO181 HO190 HB; obtain ⟨HO181, HO190, HB⟩ := n_; (try clear hb); (try clear hb2); (try clear hk); (try clear hi)))
                                          go_ret
                                          exact ⟨zE, zB⟩
                                      · rw [if_neg c149] at H
                                        have c149b0 : (t182 == t184) = false := by simpa using c149
                                        (try (have c149b1 : decide (t182 = t184) = false := by simpa using c149))
                                        (try (have c149b2 : (t182 == t184) = false := by simpa using c149))
                                        (try (have c149b3 : ¬ (t182 = t184) := by simpa using c149))
                                        clear c149
                                        obtain rfl := Option.some.inj H
                                        go_wp2_with (first | ((with_reducible refine gate_callee (f := 20) rfl ?_); refine goesL_ (some 287) rfl rfl Try.func20 zk rfl #[.slice A0 l0.length c0] rfl zA ?_; (with_reducible refine (spec_DrawAreBalanced.calls kj124 _ _ l0 t179 _ ?side1 ?side2 A142.out).mono ?_); (case side1 => exact zC (Kd.C_below HR0.out HB.out)); (case side2 => exact HC0.out); rintro e w167 ⟨v180, rfl, ho0, hb⟩; refine ⟨_, rfl, ?_⟩; have n_ := y2 (Kd.R_lower ho0 (below_size (zB))) (below_step (zB) hb); clear HB; obtain ⟨HO181, HB⟩ := n_; (try clear hb); (try clear hb2); (try clear hk); (try clear hi); (try clear ho0); obtain ⟨Ao168, co168, eo168⟩ := Kd.R_slice HO181.out; subst eo168) | ((with_reducible refine gate_callee (f := 19) rfl ?_); refine goesL_ (some 290) rfl rfl Try.func19 zk rfl #[.slice Ao168 t179.length co168] rfl zA ?_; (with_reducible refine (impl_AreBalanced.calls kj124 _ _ t179 t182 t183 _ ?side1 ?side2 A143.out).mono ?_); (case side1 => exact zC (Kd.R_reads' HO181.out).2.2); (case side2 => exact (Kd.R_reads' HO181.out).2.1); rintro e w169 ⟨rfl, hb⟩; refine ⟨_, rfl, ?_⟩; have n_ := y2 (Kd.R_below (zR HO181.out) hb) (below_step (zB) hb); clear HO181 HB; obtain ⟨HO181, HB⟩ := n_; (try clear hb); (try clear hb2); (try clear hk); (try clear hi)) | ((with_reducible refine gate_callee (f := 21) rfl ?_); refine goesL_ (some 295) rfl rfl Try.func21 zk rfl #[.slice Ao168 t179.length co168] rfl zA ?_; (with_reducible refine (spec_AreBalanced.calls kj124 _ _ t179 t184 t185 _ ?side1 ?side2 A144.out).mono ?_); (case side1 => exact zC (Kd.R_reads' HO181.out).2.2); (case side2 => exact (Kd.R_reads' HO181.out).2.1); rintro e w170 ⟨rfl, hb⟩; refine ⟨_, rfl, ?_⟩; have n_ := y2 (Kd.R_below (zR HO181.out) hb) (below_step (zB) hb); clear HO181 HB; obtain ⟨HO181, HB⟩ := n_; (try clear hb); (try clear hb2); (try clear hk); (try clear hi)) | ((with_reducible refine gate_callee (f := 22) rfl ?_); refine goesL_ (some 300) rfl rfl Try.func22 zk rfl #[.slice A0 l0.length c0] rfl zA ?_; (with_reducible refine (spec_DrawDifferenceAt.calls kj124 _ _ l0 t186 t187 t188 _ ?side1 ?side2 A145.out).mono ?_); (case side1 => exact zC (Kd.C_below HR0.out HB.out)); (case side2 => exact HC0.out); rintro e w171 ⟨v189, rfl, ho0, hb⟩; refine ⟨_, rfl, ?_⟩; have n_ := y3 (Kd.R_elder' (zR HO181.out) (Kd.R_base ho0) hb) (Kd.R_lower (Kd.R_new' ho0 (Kd.R_lt (zR HO181.out))) (below_size (zB))) (below_step (zB) hb); clear HO181 HB; obtain ⟨HO181, HO190, HB⟩ := n_; (try clear hb); (try clear hb2); (try clear hk); (try clear hi); (try clear ho0); obtain ⟨Ao172, co172, eo172⟩ := Kd.R_slice HO190.out; subst eo172) | ((with_reducible refine gate_callee (f := 23) rfl ?_); refine goesL_ (some 308) rfl rfl Try.func23 zk rfl #[.slice Ao172 t186.length co172, .int .i64 t187, .int .i64 t188] rfl zA ?_; (with_reducible refine (impl_DifferenceAt.calls kj124 _ _ t186 t187 t188 t191 t192 _ ?side1 ?side2 A146.out).mono ?_); (case side1 => exact zC (Kd.R_reads' HO190.out).2.2); (case side2 => exact (Kd.R_reads' HO190.out).2.1); rintro e w173 ⟨rfl, hb⟩; refine ⟨_, rfl, ?_⟩; have n_ := y3 (Kd.R_below (zR HO181.out) hb) (Kd.R_below (zR HO190.out) hb) (below_step (zB) hb); clear HO181 HO190 HB; obtain ⟨HO181, HO190, HB⟩ := n_; (try clear hb); (try clear hb2); (try clear hk); (try clear hi)) | ((with_reducible refine gate_callee (f := 24) rfl ?_); refine goesL_ (some 315) rfl rfl Try.func24 zk rfl #[.slice Ao172 t186.length co172, .int .i64 t187, .int .i64 t188] rfl zA ?_; (with_reducible refine (spec_DifferenceAt.calls kj124 _ _ t186 t187 t188 t193 t194 _ ?side1 ?side2 A147.out).mono ?_); (case side1 => exact zC (Kd.R_reads' HO190.out).2.2); (case side2 => exact (Kd.R_reads' HO190.out).2.1); rintro e w174 ⟨rfl, hb⟩; refine ⟨_, rfl, ?_⟩; have n_ := y3 (Kd.R_below (zR HO181.out) hb) (Kd.R_below (zR HO190.out) hb) (below_step (zB) hb); clear HO181 HO190 HB; obtain ⟨HO181, HO190, HB⟩ := n_; (try clear hb); (try clear hb2); (try clear hk); (try clear hi)))
                                        go_ret
                                        exact ⟨zE, zB⟩
                                    · rw [if_neg c148] at H
                                      have c148b0 : (t183 == t185) = false := beq_eq_false_iff_ne.mpr c148
                                      have c148b1 : (t183 != t185) = true := bne_iff_ne.mpr c148
                                      obtain rfl := Option.some.inj H
                                      go_wp2_with (first | ((with_reducible refine gate_callee (f := 20) rfl ?_); refine goesL_ (some 287) rfl rfl Try.func20 zk rfl #[.slice A0 l0.length c0] rfl zA ?_; (with_reducible refine (spec_DrawAreBalanced.calls kj124 _ _ l0 t179 _ ?side1 ?side2 A142.out).mono ?_); (case side1 => exact zC (Kd.C_below HR0.out HB.out)); (case side2 => exact HC0.out); rintro e w175 ⟨v180, rfl, ho0, hb⟩; refine ⟨_, rfl, ?_⟩; have n_ := y2 (Kd.R_lower ho0 (below_size (zB))) (below_step (zB) hb); clear HB; obtain ⟨HO181, HB⟩ := n_; (try clear hb); (try clear hb2); (try clear hk); (try clear hi); (try clear ho0); obtain ⟨Ao176, co176, eo176⟩ := Kd.R_slice HO181.out; subst eo176) | ((with_reducible refine gate_callee (f := 19) rfl ?_); refine goesL_ (some 290) rfl rfl Try.func19 zk rfl #[.slice Ao176 t179.length co176] rfl zA ?_; (with_reducible refine (impl_AreBalanced.calls kj124 _ _ t179 t182 t183 _ ?side1 ?side2 A143.out).mono ?_); (case side1 => exact zC (Kd.R_reads' HO181.out).2.2); (case side2 => exact (Kd.R_reads' HO181.out).2.1); rintro e w177 ⟨rfl, hb⟩; refine ⟨_, rfl, ?_⟩; have n_ := y2 (Kd.R_below (zR HO181.out) hb) (below_step (zB) hb); clear HO181 HB; obtain ⟨HO181, HB⟩ := n_; (try clear hb); (try clear hb2); (try clear hk); (try clear hi)) | ((with_reducible refine gate_callee (f := 21) rfl ?_); refine goesL_ (some 295) rfl rfl Try.func21 zk rfl #[.slice Ao176 t179.length co176] rfl zA ?_; (with_reducible refine (spec_AreBalanced.calls kj124 _ _ t179 t184 t185 _ ?side1 ?side2 A144.out).mono ?_); (case side1 => exact zC (Kd.R_reads' HO181.out).2.2); (case side2 => exact (Kd.R_reads' HO181.out).2.1); rintro e w178 ⟨rfl, hb⟩; refine ⟨_, rfl, ?_⟩; have n_ := y2 (Kd.R_below (zR HO181.out) hb) (below_step (zB) hb); clear HO181 HB; obtain ⟨HO181, HB⟩ := n_; (try clear hb); (try clear hb2); (try clear hk); (try clear hi)) | ((with_reducible refine gate_callee (f := 22) rfl ?_); refine goesL_ (some 300) rfl rfl Try.func22 zk rfl #[.slice A0 l0.length c0] rfl zA ?_; (with_reducible refine (spec_DrawDifferenceAt.calls kj124 _ _ l0 t186 t187 t188 _ ?side1 ?side2 A145.out).mono ?_); (case side1 => exact zC (Kd.C_below HR0.out HB.out)); (case side2 => exact HC0.out); rintro e w179 ⟨v189, rfl, ho0, hb⟩; refine ⟨_, rfl, ?_⟩; have n_ := y3 (Kd.R_elder' (zR HO181.out) (Kd.R_base ho0) hb) (Kd.R_lower (Kd.R_new' ho0 (Kd.R_lt (zR HO181.out))) (below_size (zB))) (below_step (zB) hb); clear HO181 HB; obtain ⟨HO181, HO190, HB⟩ := n_; (try clear hb); (try clear hb2); (try clear hk); (try clear hi); (try clear ho0); obtain ⟨Ao180, co180, eo180⟩ := Kd.R_slice HO190.out; subst eo180) | ((with_reducible refine gate_callee (f := 23) rfl ?_); refine goesL_ (some 308) rfl rfl Try.func23 zk rfl #[.slice Ao180 t186.length co180, .int .i64 t187, .int .i64 t188] rfl zA ?_; (with_reducible refine (impl_DifferenceAt.calls kj124 _ _ t186 t187 t188 t191 t192 _ ?side1 ?side2 A146.out).mono ?_); (case side1 => exact zC (Kd.R_reads' HO190.out).2.2); (case side2 => exact (Kd.R_reads' HO190.out).2.1); rintro e w181 ⟨rfl, hb⟩; refine ⟨_, rfl, ?_⟩; have n_ := y3 (Kd.R_below (zR HO181.out) hb) (Kd.R_below (zR HO190.out) hb) (below_step (zB) hb); clear HO181 HO190 HB; obtain ⟨HO181, HO190, HB⟩ := n_; (try clear hb); (try clear hb2); (try clear hk); (try clear hi)) | ((with_reducible refine gate_callee (f := 24) rfl ?_); refine goesL_ (some 315) rfl rfl Try.func24 zk rfl #[.slice Ao180 t186.length co180, .int .i64 t187, .int .i64 t188] rfl zA ?_; (with_reducible refine (spec_DifferenceAt.calls kj124 _ _ t186 t187 t188 t193 t194 _ ?side1 ?side2 A147.out).mono ?_); (case side1 => exact zC (Kd.R_reads' HO190.out).2.2); (case side2 => exact (Kd.R_reads' HO190.out).2.1); rintro e w182 ⟨rfl, hb⟩; refine ⟨_, rfl, ?_⟩; have n_ := y3 (Kd.R_below (zR HO181.out) hb) (Kd.R_below (zR HO190.out) hb) (below_step (zB) hb); clear HO181 HO190 HB; obtain ⟨HO181, HO190, HB⟩ := n_; (try clear hb); (try clear hb2); (try clear hk); (try clear hi)))
                                      go_ret
                                      exact ⟨zE, zB⟩
/-- THE ONE PURE STATEMENT of laws_FnLevel: yours. -/
def laws_FnLevel.Pure : Prop := ∀ (l0 : List Int), l0.length ≤ maxLen → l0.length * 1 ≤ 140737488351232 → (∀ x ∈ l0, (Lit.int .u8 x).wf = true) → ∃ k, laws_FnLevel.f k l0 = some true
theorem laws_FnLevel.walk (P : laws_FnLevel.Pure) (a0 : Option Addr) (len0 cap0 : Nat) (z0 : List Int) (w : World) (w0 : (a0 = none ∧ len0 = 0 ∧ cap0 = 0 ∧ z0 = []) ∨ ∃ x, a0 = some x ∧ len0 ≤ cap0 ∧ cap0 ≤ maxLen ∧ z0.length = cap0 ∧ (∀ i, i < z0.length → w.cell? (x.add i) = some (.int .u8 (z0.getD i 0))) ∧ ∀ n ∈ z0, (Lit.int .u8 n).wf = true) (y0 : len0 * 1 ≤ 140737488351232) :
    Calls Try.prog 3 #[.slice a0 len0 cap0] w fun e w' => e = .returned (.bool true) ∧ Below w.heap.size w w' := by
 obtain ⟨l0, rfl, hr0, hm0, hw0, hc0⟩ := ReadsInt.ofRowC w0
 obtain ⟨k, h⟩ := P l0 hm0 y0 hw0
 refine (laws_FnLevel.calls k _ _ l0 true w (Kd.C_of_reads (d := (0 : Int)) (h1 := fun _ => rfl) hr0) hc0 h).mono ?_
 rintro e w' ⟨rfl, hd⟩
 exact ⟨rfl, hd⟩
end Go.Proofs.Ytpmconnonleokaa.P
end
section
namespace Go.Proofs.Ytpmconnonleokaa.Pure
open Go.RowKit Go.Proofs.Ytpmconnonleokaa.P Go.Proofs.YtpmconnonleokaaW.PrintWords Go.Proofs.YtpmconnonleokaaW.PrintLast Go.Proofs.YtpmconnonleokaaW.PrintMore
set_option linter.unusedVariables false
set_option linter.unusedSimpArgs false
theorem l01In_f (n lo hi : Int) : spec_l01In.f n lo hi = some (decide (lo ≤ n ∧ n ≤ hi)) := by
  unfold spec_l01In.f
  by_cases h : n ≥ lo
  · rw [if_pos h]; simp [show lo ≤ n from h]
  · rw [if_neg h]; simp [show ¬ lo ≤ n from h]
theorem all_take_succ {α : Type} (p : α → Bool) (l : List α) (n : Nat) (h : n < l.length) : (l.take (n + 1)).all p = ((l.take n).all p && p l[n]) := by
  rw [List.take_succ_eq_append_getElem h, List.all_append]; simp
theorem all_false_at {α : Type} (p : α → Bool) (l : List α) (n : Nat) (h : n < l.length) (hp : p l[n] = false) : l.all p = false := by
  rw [Bool.eq_false_iff]
  intro ha
  rw [List.all_eq_true] at ha
  rw [ha _ (List.getElem_mem h)] at hp
  cases hp
end Go.Proofs.Ytpmconnonleokaa.Pure
end
section
namespace Go.Proofs.Ytpmconnonleokaa.Pure
open Go.RowKit Go.Proofs.Ytpmconnonleokaa.P Go.Proofs.YtpmconnonleokaaW.PrintWords Go.Proofs.YtpmconnonleokaaW.PrintLast Go.Proofs.YtpmconnonleokaaW.PrintMore
set_option linter.unusedVariables false
set_option linter.unusedSimpArgs false
theorem ev_pos {α : Type} {c : Prop} [Decidable c] {A B : Nat → Option α} {r : α} (h : c) (e : Ev A r) : Ev (fun n => if c then A n else B n) r := Ev.congr (fun n => if_pos h) e
theorem ev_neg {α : Type} {c : Prop} [Decidable c] {A B : Nat → Option α} {r : α} (h : ¬ c) (e : Ev B r) : Ev (fun n => if c then A n else B n) r := Ev.congr (fun n => if_neg h) e
theorem ev_now {α : Type} (r : α) : Ev (fun _ => some r) r := Ev.now r
theorem ev_is {α : Type} {g : Option α} {r : α} (h : g = some r) : Ev (fun _ => g) r := by subst h; exact Ev.now r
theorem ev_bind {α β : Type} {g : Nat → Option α} {f : Nat → α → Option β} {a : α} {r : β} (h : Ev g a) (k : Ev (fun n => f n a) r) : Ev (fun n => (g n).bind (f n)) r := Ev.bind h k
theorem ev_fix {α β : Type} {g : Option α} {f : Nat → α → Option β} {a : α} {r : β} (h : g = some a) (k : Ev (fun n => f n a) r) : Ev (fun n => g.bind (f n)) r := by subst h; exact k
theorem ev_rounds {α : Type} {g : Nat → Option α} {r : α} (h : Ev g r) : ∃ k, g k = some r := h.rounds
theorem wrap_id {x : Int} (h1 : -9223372036854775808 ≤ x) (h2 : x ≤ 9223372036854775807) : wrap64 x = x := by unfold wrap64; omega
theorem wrap_succ {n : Nat} (h : n + 1 ≤ 9223372036854775807) : wrap64 ((n : Int) + 1) = ((n + 1 : Nat) : Int) := by rw [wrap_id (by omega) (by omega)]; omega
theorem rd_nat {l : List Int} {n : Nat} (h : n < l.length) : rd l (n : Int) = l[n] := by simp [rd, h]
end Go.Proofs.Ytpmconnonleokaa.Pure
end
section
namespace Go.Proofs.Ytpmconnonleokaa.Pure
open Go.RowKit Go.Proofs.Ytpmconnonleokaa.P Go.Proofs.YtpmconnonleokaaW.PrintWords Go.Proofs.YtpmconnonleokaaW.PrintLast Go.Proofs.YtpmconnonleokaaW.PrintMore
set_option linter.unusedVariables false
set_option linter.unusedSimpArgs false
theorem rd_set {l : List Int} {b i : Nat} {x : Int} (hb : b < l.length) : rd (l.set b x) (i : Nat) = if i = b then x else rd l (i : Nat) := by
  simp only [rd, Int.toNat_natCast, List.getD_eq_getElem?_getD, List.getElem?_set]
  by_cases h : b = i
  · subst h; simp [hb]
  · rw [if_neg h, if_neg (fun e => h e.symm)]
end Go.Proofs.Ytpmconnonleokaa.Pure
end
section
namespace Go.Proofs.Ytpmconnonleokaa.Pure
set_option linter.unusedVariables false
set_option linter.unusedSimpArgs false
/-- the sum of a list -/
def tot : List Int → Int
  | [] => 0
  | x :: l => x + tot l
theorem tot_append (a b : List Int) : tot (a ++ b) = tot a + tot b := by
  induction a with
  | nil => simp [tot]
  | cons x a ih => simp only [List.cons_append, tot, ih]; omega
theorem tot_take_succ (l : List Int) (n : Nat) (h : n < l.length) : tot (l.take (n + 1)) = tot (l.take n) + l[n] := by
  rw [List.take_succ_eq_append_getElem h, tot_append]; simp [tot]
theorem tot_bounds (lo hi : Int) (l : List Int) (h : ∀ x ∈ l, lo ≤ x ∧ x ≤ hi) : lo * l.length ≤ tot l ∧ tot l ≤ hi * l.length := by
  induction l with
  | nil => simp [tot]
  | cons x l ih =>
    have h1 := ih (fun y hy => h y (List.mem_cons_of_mem _ hy))
    have h2 := h x List.mem_cons_self
    simp only [tot, List.length_cons]
    rw [show ((l.length + 1 : Nat) : Int) = (l.length : Int) + 1 by omega, Int.mul_add, Int.mul_add, Int.mul_one, Int.mul_one]
    omega
theorem mem_of_mem_take {α : Type} {l : List α} {n : Nat} {x : α} (h : x ∈ l.take n) : x ∈ l := List.mem_of_mem_take h
end Go.Proofs.Ytpmconnonleokaa.Pure
end
section
namespace Go.Proofs.Ytpmconnonleokaa.Pure
open Go.RowKit Go.Proofs.Ytpmconnonleokaa.P Go.Proofs.YtpmconnonleokaaW.PrintWords Go.Proofs.YtpmconnonleokaaW.PrintLast Go.Proofs.YtpmconnonleokaaW.PrintMore
set_option linter.unusedVariables false
set_option linter.unusedSimpArgs false
/-- 1 to 8 shares in 1..60, of at most 60 in all -/
def isShares (l : List Int) : Bool := decide (1 ≤ (l.length : Int) ∧ (l.length : Int) ≤ 8) && (l.all (fun g => decide (1 ≤ g ∧ g ≤ 60)) && decide (tot l ≤ 60))
theorem isShares_iff (l : List Int) : isShares l = true ↔ (1 ≤ l.length ∧ l.length ≤ 8) ∧ (∀ x ∈ l, 1 ≤ x ∧ x ≤ 60) ∧ tot l ≤ 60 := by
  unfold isShares
  rw [Bool.and_eq_true, Bool.and_eq_true, List.all_eq_true, decide_eq_true_iff, decide_eq_true_iff]
  simp only [decide_eq_true_iff]
  constructor
  · rintro ⟨h1, h2, h3⟩; exact ⟨by omega, h2, h3⟩
  · rintro ⟨h1, h2, h3⟩; exact ⟨by omega, h2, h3⟩
theorem isShares_pos {l : List Int} (h : isShares l = true) : 1 ≤ tot l ∧ tot l ≤ 60 := by
  have h1 := (isShares_iff l).1 h
  have h2 := tot_bounds 1 60 l h1.2.1
  omega
theorem l07Sum_l0 (l : List Int) (hl : l.length ≤ 1048576) : ∀ d n : Nat, n + d = l.length → (∀ x ∈ l.take n, 1 ≤ x ∧ x ≤ 60) → Ev (fun k => spec_l07Sum.l0 k l (tot (l.take n)) (n : Int)) (if isShares l = true then tot l else 0) := by
  intro d
  induction d with
  | zero =>
    intro n hn ha
    have hb := tot_bounds 1 60 _ ha
    rw [List.take_of_length_le (by omega)] at ha hb ⊢
    refine Ev.step (fun k => by rw [spec_l07Sum.l0]) (ev_neg (by omega) ?_)
    by_cases h8 : (l.length : Int) > 8
    · refine ev_pos h8 (ev_is ?_)
      rw [if_neg (fun h => by have := ((isShares_iff l).1 h).1; omega)]
    · refine ev_neg h8 ?_
      by_cases h60 : tot l > 60
      · refine ev_pos h60 (ev_is ?_)
        rw [if_neg (fun h => by have := ((isShares_iff l).1 h).2.2; omega)]
      · refine ev_neg h60 (ev_is ?_)
        by_cases h : isShares l = true
        · rw [if_pos h]
        · rw [if_neg h]
          rw [isShares_iff] at h
          have h0 : l.length = 0 := by
            rcases Nat.eq_zero_or_pos l.length with h0 | h0
            · exact h0
            · exact absurd ⟨by omega, ha, by omega⟩ h
          rw [List.eq_nil_of_length_eq_zero h0]
          rfl
  | succ d ih =>
    intro n hn ha
    have hlt : n < l.length := by omega
    have hb := tot_bounds 1 60 _ ha
    rw [List.length_take, Nat.min_eq_left (by omega)] at hb
    refine Ev.step (fun k => by rw [spec_l07Sum.l0]) (ev_pos (by omega) (ev_pos (by omega) (ev_fix (l01In_f _ _ _) ?_)))
    rw [rd_nat hlt]
    by_cases hq : 1 ≤ l[n] ∧ l[n] ≤ 60
    · rw [decide_eq_true hq]
      refine ev_pos rfl ?_
      rw [wrap_succ (by omega), wrap_id (by omega) (by omega), ← tot_take_succ l n hlt]
      refine ih (n + 1) (by omega) ?_
      rw [List.take_succ_eq_append_getElem hlt]
      intro y hy
      rcases List.mem_append.1 hy with hy | hy
      · exact ha y hy
      · rw [List.mem_singleton.1 hy]; exact hq
    · rw [decide_eq_false hq]
      refine ev_neg (by simp) (ev_is ?_)
      rw [if_neg (fun h => hq (((isShares_iff l).1 h).2.1 _ (List.getElem_mem hlt)))]
theorem l07Sum_ev (l : List Int) (hl : l.length ≤ 1048576) : Ev (fun k => spec_l07Sum.f k l) (if isShares l = true then tot l else 0) := by
  unfold spec_l07Sum.f
  exact l07Sum_l0 l hl l.length 0 (by omega) (by simp)
theorem total_l0 (l : List Int) (hl : l.length ≤ 1048576) (hb : ∀ x ∈ l, -1000000 ≤ x ∧ x ≤ 1000000) : ∀ d n : Nat, n + d = l.length → Ev (fun k => impl_total.l0 k (tot (l.take n)) l (l.length : Int) (n : Int)) (tot l) := by
  intro d
  induction d with
  | zero =>
    intro n hn
    rw [List.take_of_length_le (by omega)]
    exact Ev.step (fun k => by rw [impl_total.l0]) (ev_neg (by omega) (ev_now _))
  | succ d ih =>
    intro n hn
    have hlt : n < l.length := by omega
    have h1 := tot_bounds (-1000000) 1000000 (l.take n) (fun x hx => hb x (List.mem_of_mem_take hx))
    rw [List.length_take, Nat.min_eq_left (by omega)] at h1
    have h2 := hb _ (List.getElem_mem hlt)
    refine Ev.step (fun k => by rw [impl_total.l0]) (ev_pos (by omega) (ev_pos (by omega) (ev_pos (by omega) ?_)))
    rw [rd_nat hlt, wrap_succ (by omega), wrap_id (by omega) (by omega), ← tot_take_succ l n hlt]
    exact ih (n + 1) (by omega)
theorem total_ev (l : List Int) (hl : l.length ≤ 1048576) (hb : ∀ x ∈ l, -1000000 ≤ x ∧ x ≤ 1000000) : Ev (fun k => impl_total.f k l) (tot l) := by
  unfold impl_total.f
  exact total_l0 l hl hb l.length 0 (by omega)
theorem areShares_ev (l : List Int) (hl : l.length ≤ 1048576) : Ev (fun k => impl_areShares.f k l) (isShares l) := by
  unfold impl_areShares.f
  by_cases h : (1 ≤ (l.length : Int) ∧ (l.length : Int) ≤ 8) ∧ l.all (fun g => decide (1 ≤ g ∧ g ≤ 60)) = true
  · refine ev_pos h ?_
    have h2 : ∀ x ∈ l, 1 ≤ x ∧ x ≤ 60 := fun x hx => of_decide_eq_true (List.all_eq_true.1 h.2 x hx)
    refine ev_bind (total_ev l hl (fun x hx => by have := h2 x hx; omega)) (ev_is ?_)
    rw [isShares, decide_eq_true h.1, h.2, Bool.true_and, Bool.true_and]
  · refine ev_neg h (ev_is ?_)
    have : isShares l ≠ true := fun hs => h ⟨by have := ((isShares_iff l).1 hs).1; omega, List.all_eq_true.2 fun x hx => decide_eq_true (((isShares_iff l).1 hs).2.1 x hx)⟩
    simpa using this
end Go.Proofs.Ytpmconnonleokaa.Pure
end
section
namespace Go.Proofs.Ytpmconnonleokaa.Pure
open Go.RowKit Go.Proofs.Ytpmconnonleokaa.P Go.Proofs.YtpmconnonleokaaW.PrintWords Go.Proofs.YtpmconnonleokaaW.PrintLast Go.Proofs.YtpmconnonleokaaW.PrintMore
set_option linter.unusedVariables false
set_option linter.unusedSimpArgs false
def dElig (shares given : List Int) (all b n : Int) (i : Nat) : Bool := decide (rd given i + 1 ≤ rd shares i) && decide (all * (rd given i + 1) - n * rd shares i ≤ b)
def dOwn (shares given : List Int) (all b : Int) (i : Nat) : Int := mn ((b + all * rd given i) / rd shares i + 1) all
/-- the task with the least last slot among the first j that may have the slot, and that slot (from 1 on) -/
def dPick (elig : Nat → Bool) (own : Nat → Int) : Nat → Int × Int
  | 0 => (-1, 0)
  | j + 1 => if elig j = true then (if (dPick elig own j).1 < 0 ∨ own j < (dPick elig own j).2 then ((j : Int), own j) else dPick elig own j) else dPick elig own j
theorem dPick_range (elig : Nat → Bool) (own : Nat → Int) : ∀ j : Nat, (dPick elig own j).1 = -1 ∨ ∃ i : Nat, i < j ∧ (dPick elig own j).1 = i ∧ (dPick elig own j).2 = own i ∧ elig i = true := by
  intro j
  induction j with
  | zero => exact .inl rfl
  | succ j ih =>
    rw [dPick]
    have hold : (dPick elig own j).1 = -1 ∨ ∃ i : Nat, i < j + 1 ∧ (dPick elig own j).1 = i ∧ (dPick elig own j).2 = own i ∧ elig i = true := by
      rcases ih with h | ⟨i, hi, h⟩
      · exact .inl h
      · exact .inr ⟨i, by omega, h⟩
    split
    · rename_i he
      split
      · exact .inr ⟨j, by omega, rfl, rfl, he⟩
      · exact hold
    · exact hold
def deadGo (shares : List Int) (all b : Int) : Nat → List Int → List Int → Int → List Int × Bool
  | 0, _, out, _ => (out, true)
  | d + 1, given, out, n =>
    if (dPick (dElig shares given all b n) (dOwn shares given all b) shares.length).1 < 0 ∨ (dPick (dElig shares given all b n) (dOwn shares given all b) shares.length).2 < n then ([], false)
    else deadGo shares all b d (given.set (dPick (dElig shares given all b n) (dOwn shares given all b) shares.length).1.toNat (rd given (dPick (dElig shares given all b n) (dOwn shares given all b) shares.length).1 + 1)) (out ++ [(dPick (dElig shares given all b n) (dOwn shares given all b) shares.length).1]) (n + 1)
/-- the deadline turns of shares for a number -/
def dead (shares : List Int) (b : Int) : List Int × Bool := deadGo shares (tot shares) b (tot shares).toNat (List.replicate shares.length 0) [] 1
theorem deadGo_length (shares : List Int) (all b : Int) : ∀ d given out n, (deadGo shares all b d given out n).1.length ≤ out.length + d := by
  intro d
  induction d with
  | zero => intro given out n; exact Nat.le_refl _
  | succ d ih =>
    intro given out n
    rw [deadGo]
    split
    · simp
    · refine Nat.le_trans (ih _ _ _) ?_
      rw [List.length_append, List.length_singleton]; omega
structure DInv (shares given : List Int) : Prop where
  len : given.length = shares.length
  bnd : ∀ i : Nat, i < shares.length → 0 ≤ rd given i ∧ rd given i ≤ rd shares i
theorem DInv.start {shares : List Int} (h : isShares shares = true) : DInv shares (List.replicate shares.length 0) := by
  refine ⟨by simp, fun i hi => ?_⟩
  have h1 := ((isShares_iff shares).1 h).2.1 _ (List.getElem_mem hi)
  rw [← rd_nat hi] at h1
  have h2 : rd (List.replicate shares.length 0) (i : Int) = 0 := by simp [rd, List.getElem?_replicate, hi]
  omega
theorem DInv.next {shares given : List Int} (h : DInv shares given) {i : Nat} (hi : i < shares.length) (he : rd given i + 1 ≤ rd shares i) : DInv shares (given.set i (rd given i + 1)) := by
  refine ⟨by rw [List.length_set]; exact h.len, fun j hj => ?_⟩
  rw [rd_set (by rw [h.len]; exact hi)]
  have h1 := h.bnd j hj
  have h2 := h.bnd i hi
  by_cases e : j = i
  · subst e; rw [if_pos rfl]; omega
  · rw [if_neg e]; exact h1
structure DBnd (shares given : List Int) (all b n : Int) : Prop where
  sh : isShares shares = true
  al : all = tot shares
  inv : DInv shares given
  b0 : 0 ≤ b ∧ b ≤ 10000
  n0 : 1 ≤ n ∧ n ≤ all
theorem DBnd.facts {shares given : List Int} {all b n : Int} (h : DBnd shares given all b n) (j : Nat) (hj : j < shares.length) :
    (1 ≤ all ∧ all ≤ 60) ∧ (0 ≤ rd given j ∧ rd given j ≤ 60) ∧ (1 ≤ rd shares j ∧ rd shares j ≤ 60) ∧ (1 ≤ n ∧ n ≤ 60) ∧ (0 ≤ b ∧ b ≤ 10000) := by
  have h1 := isShares_pos h.sh
  have h2 := h.inv.bnd j hj
  have h3 := ((isShares_iff shares).1 h.sh).2.1 _ (List.getElem_mem hj)
  rw [← rd_nat hj] at h3
  have h4 := h.al; have h5 := h.n0; have h6 := h.b0
  omega
theorem elig_false {shares given : List Int} {all b n : Int} {j : Nat} (h : ¬ rd given j + 1 ≤ rd shares j) : dElig shares given all b n j = false := by simp [dElig, h]
theorem elig_second {shares given : List Int} {all b n : Int} {j : Nat} (h : rd given j + 1 ≤ rd shares j) : dElig shares given all b n j = decide (all * (rd given j + 1) - n * rd shares j ≤ b) := by simp [dElig, h]
theorem gt_flip {x b : Int} : decide (x > b) = !decide (x ≤ b) := by
  by_cases h : x ≤ b
  · rw [decide_eq_true h, decide_eq_false (by omega)]; rfl
  · rw [decide_eq_false h, decide_eq_true (by omega)]; rfl
theorem mul60 {a b A B : Int} (ha : 0 ≤ a ∧ a ≤ A) (hb : 0 ≤ b ∧ b ≤ B) : 0 ≤ a * b ∧ a * b ≤ A * B := by
  refine ⟨Int.mul_nonneg ha.1 hb.1, ?_⟩
  exact Int.le_trans (Int.mul_le_mul_of_nonneg_right ha.2 hb.1) (Int.mul_le_mul_of_nonneg_left hb.2 (by omega))
theorem own_spec {all b s g : Int} (ha : 1 ≤ all ∧ all ≤ 60) (hb : 0 ≤ b ∧ b ≤ 10000) (hs : 1 ≤ s ∧ s ≤ 60) (hg : 0 ≤ g ∧ g ≤ 60) :
    mn (wrap64 ((wrap64 (Int.tdiv (wrap64 (b + (wrap64 (all * (wrap64 (wrap64 (g + 1) - 1)))))) s)) + 1)) all = mn ((b + all * g) / s + 1) all := by
  have h1 := mul60 (a := all) (b := g) (A := 60) (B := 60) (by omega) hg
  have h2 : 0 ≤ (b + all * g) / s := Int.ediv_nonneg (by omega) (by omega)
  have h3 : (b + all * g) / s ≤ b + all * g := Int.ediv_le_self _ (by omega)
  rw [wrap_id (x := g + 1) (by omega) (by omega), show g + 1 - 1 = g by omega, wrap_id (x := g) (by omega) (by omega), wrap_id (x := all * g) (by omega) (by omega), wrap_id (x := b + all * g) (by omega) (by omega), Int.tdiv_eq_ediv_of_nonneg (by omega), wrap_id (x := (b + all * g) / s) (by omega) (by omega), wrap_id (by omega) (by omega)]
/-- the continuation behind the tasks of a slot, of the reference -/
theorem Dead_spec_l1 (shares given out : List Int) (all b n : Int) (hG : DBnd shares given all b n) (hout : out.length < 17592186044416) (R : List Int × Bool)
    (hR : Ev (fun k => spec_l07Deadline.l1 k shares all b out given n (dPick (dElig shares given all b n) (dOwn shares given all b) shares.length).1 (dPick (dElig shares given all b n) (dOwn shares given all b) shares.length).2 (shares.length : Int) (shares.length : Int)) R) :
    ∀ d j : Nat, j + d = shares.length → Ev (fun k => spec_l07Deadline.l1 k shares all b out given n (dPick (dElig shares given all b n) (dOwn shares given all b) j).1 (dPick (dElig shares given all b n) (dOwn shares given all b) j).2 (shares.length : Int) (j : Int)) R := by
  have hlen := hG.inv.len
  have hpos := ((isShares_iff shares).1 hG.sh).1
  intro d
  induction d with
  | zero =>
    intro j hj
    obtain rfl : j = shares.length := by omega
    exact hR
  | succ d ih =>
    intro j hj
    have hlt : j < shares.length := by omega
    have ⟨f1, f2, f3, f4, f5⟩ := hG.facts j hlt
    have h5 := mul60 (a := all) (b := rd given j + 1) (A := 60) (B := 61) (by omega) (by omega)
    have h6 := mul60 (a := n) (b := rd shares j) (A := 60) (B := 60) (by omega) (by omega)
    have hih := ih (j + 1) (by omega)
    rw [dPick] at hih
    generalize dPick (dElig shares given all b n) (dOwn shares given all b) j = p at hih ⊢
    refine Ev.step (fun k => by rw [spec_l07Deadline.l1]) ?_
    refine ev_pos (by omega) (ev_pos (by omega) (ev_pos (by omega) (ev_pos (by omega) ?_)))
    rw [wrap_id (x := rd given j + 1) (by omega) (by omega)]
    have hskip : dElig shares given all b n j = false → Ev (fun k => spec_l07Deadline.j2 k shares all b out given n p.1 p.2 (j : Int) (rd given j + 1) (shares.length : Int) (j : Int) true) R := by
      intro he
      rw [he, if_neg (by simp)] at hih
      refine Ev.step (fun k => by rw [spec_l07Deadline.j2]) ?_
      refine ev_pos rfl ?_
      rw [wrap_succ (by omega)]
      exact hih
    by_cases c1 : rd given j + 1 > rd shares j
    · exact ev_pos c1 (hskip (elig_false (by omega)))
    · refine ev_neg c1 ?_
      rw [wrap_id (x := all * (rd given j + 1)) (by omega) (by omega), wrap_id (x := n * rd shares j) (by omega) (by omega), wrap_id (x := _ - _) (by omega) (by omega), gt_flip, ← elig_second (n := n) (b := b) (all := all) (by omega)]
      cases he : dElig shares given all b n j with
      | false => exact hskip he
      | true =>
        rw [he, if_pos rfl] at hih
        refine Ev.step (fun k => by rw [spec_l07Deadline.j2]) ?_
        refine ev_neg (by simp) (ev_pos (by omega) (ev_pos (by omega) (ev_neg (by omega) ?_)))
        have ho := own_spec f1 f5 f3 f2
        rw [wrap_id (x := rd given j + 1) (by omega) (by omega)] at ho
        rw [ho, wrap_succ (by omega)]
        by_cases c2 : p.1 < 0
        · rw [if_pos (.inl c2)] at hih
          exact ev_pos c2 hih
        · refine ev_neg c2 ?_
          by_cases c3 : dOwn shares given all b j < p.2
          · rw [if_pos (.inr c3)] at hih
            exact ev_pos c3 hih
          · rw [if_neg (fun h => h.elim c2 c3)] at hih
            exact ev_neg c3 hih
theorem Dead_spec_l0 (shares : List Int) (hs : isShares shares = true) (b : Int) (hb : 0 ≤ b ∧ b ≤ 10000) : ∀ (d : Nat) (given out : List Int) (n : Int), n + d = tot shares + 1 → 1 ≤ n → out.length = n - 1 → DInv shares given →
    Ev (fun k => spec_l07Deadline.l0 k shares (tot shares) b out given n) (deadGo shares (tot shares) b d given out n) := by
  have ht := isShares_pos hs
  have hpos := ((isShares_iff shares).1 hs).1
  intro d
  induction d with
  | zero =>
    intro given out n hn h0 ho hi
    show Ev _ (out, true)
    refine Ev.step (fun k => by rw [spec_l07Deadline.l0]) ?_
    exact ev_neg (by omega) (ev_now _)
  | succ d ih =>
    intro given out n hn h0 ho hi
    have hG : DBnd shares given (tot shares) b n := ⟨hs, rfl, hi, hb, by omega⟩
    refine Ev.step (fun k => by rw [spec_l07Deadline.l0]) ?_
    refine ev_pos (by omega) (Dead_spec_l1 shares given out (tot shares) b n hG (by omega) _ ?_ shares.length 0 (by omega))
    have hr := dPick_range (dElig shares given (tot shares) b n) (dOwn shares given (tot shares) b) shares.length
    rw [deadGo]
    generalize dPick (dElig shares given (tot shares) b n) (dOwn shares given (tot shares) b) shares.length = p at hr ⊢
    refine Ev.step (fun k => by rw [spec_l07Deadline.l1]) ?_
    refine ev_neg (by omega) ?_
    rcases hr with hr | ⟨i, hi1, hr, hr2, he⟩
    · rw [if_pos (.inl (by omega))]
      exact ev_pos (by omega) (ev_now _)
    · refine ev_neg (by omega) ?_
      by_cases c : p.2 < n
      · rw [if_pos (.inr c)]
        exact ev_pos c (ev_now _)
      · rw [if_neg (by omega)]
        have hf := hG.facts i hi1
        simp only [dElig, Bool.and_eq_true, decide_eq_true_iff] at he
        refine ev_neg c (ev_pos (by omega) (ev_pos (by rw [hi.len]; omega) (ev_pos (by omega) ?_)))
        rw [hr, wrap_id (x := n + 1) (by omega) (by omega), wrap_id (x := rd given i + 1) (by omega) (by omega), Int.toNat_natCast]
        exact ih _ _ (n + 1) (by omega) (by omega) (by rw [List.length_append, List.length_singleton]; omega) (hi.next hi1 he.1)
theorem l07Deadline_ev (shares : List Int) (hs : isShares shares = true) (b : Int) (hb : 0 ≤ b ∧ b ≤ 10000) : Ev (fun k => spec_l07Deadline.f k shares (tot shares) b) (dead shares b) := by
  unfold spec_l07Deadline.f dead
  have hpos := ((isShares_iff shares).1 hs).1
  have ht := isShares_pos hs
  refine ev_pos (by omega) (ev_pos (by omega) ?_)
  rw [Int.toNat_natCast]
  exact Dead_spec_l0 shares hs b hb _ _ [] 1 (by omega) (by omega) (by simp) (DInv.start hs)
end Go.Proofs.Ytpmconnonleokaa.Pure
end
section
namespace Go.Proofs.Ytpmconnonleokaa.Pure
open Go.RowKit Go.Proofs.Ytpmconnonleokaa.P Go.Proofs.YtpmconnonleokaaW.PrintWords Go.Proofs.YtpmconnonleokaaW.PrintLast Go.Proofs.YtpmconnonleokaaW.PrintMore
set_option linter.unusedVariables false
set_option linter.unusedSimpArgs false
theorem tot_mono : ∀ (a b : List Int), a.length = b.length → (∀ i : Nat, i < a.length → rd b i ≤ rd a i) → tot b ≤ tot a := by
  intro a
  induction a with
  | nil => intro b h _; obtain rfl : b = [] := List.eq_nil_of_length_eq_zero (by simpa using h.symm); exact Int.le_refl _
  | cons x a ih =>
    intro b h hr
    match b, h with
    | y :: b, h =>
      have h1 := ih b (by simpa using h) (fun i hi => by
        have := hr (i + 1) (by simpa using hi)
        simpa [rd] using this)
      have h2 := hr 0 (by simp)
      simp only [tot]
      have h3 : y ≤ x := by simpa [rd] using h2
      omega
theorem tot_set (l : List Int) (i : Nat) (h : i < l.length) (x : Int) : tot (l.set i x) = tot l - rd l i + x := by
  induction l generalizing i with
  | nil => simp at h
  | cons y l ih =>
    cases i with
    | zero => simp [tot, rd]; omega
    | succ i =>
      have h1 := ih i (by simpa using h)
      have h2 : rd (y :: l) ((i + 1 : Nat) : Int) = rd l (i : Int) := by simp [rd]
      rw [List.set_cons_succ, tot, tot, h1, h2]
      omega
theorem dPick_some (elig : Nat → Bool) (own : Nat → Int) : ∀ j : Nat, (∃ i, i < j ∧ elig i = true) → 0 ≤ (dPick elig own j).1 := by
  intro j
  induction j with
  | zero => rintro ⟨i, h, _⟩; omega
  | succ j ih =>
    rintro ⟨i, hi, he⟩
    rw [dPick]
    by_cases hj : elig j = true
    · rw [if_pos hj]
      by_cases c : (dPick elig own j).1 < 0 ∨ own j < (dPick elig own j).2
      · rw [if_pos c]; simp
      · rw [if_neg c]; omega
    · rw [if_neg hj]
      refine ih ⟨i, ?_, he⟩
      have : i ≠ j := fun e => hj (e ▸ he)
      omega
theorem deadGo_ok (shares : List Int) (hs : isShares shares = true) (b : Int) (hb : 3600 ≤ b ∧ b ≤ 10000) : ∀ (d : Nat) (given out : List Int) (n : Int), n + d = tot shares + 1 → 1 ≤ n → DInv shares given → tot given = n - 1 →
    (deadGo shares (tot shares) b d given out n).2 = true := by
  have ht := isShares_pos hs
  intro d
  induction d with
  | zero => intros; rfl
  | succ d ih =>
    intro given out n hn h0 hi hg
    have hG : DBnd shares given (tot shares) b n := ⟨hs, rfl, hi, by omega, by omega⟩
    have hex : ∃ i, i < shares.length ∧ rd given i + 1 ≤ rd shares i := by
      refine Classical.byContradiction fun hno => ?_
      have h1 := tot_mono given shares hi.len (fun i hlt => by
        rw [hi.len] at hlt
        have h2 : ¬ rd given i + 1 ≤ rd shares i := fun h => hno ⟨i, hlt, h⟩
        omega)
      omega
    have hel : ∀ i, i < shares.length → rd given i + 1 ≤ rd shares i → dElig shares given (tot shares) b n i = true := by
      intro i hlt h
      have ⟨f1, f2, f3, f4, f5⟩ := hG.facts i hlt
      have h5 := mul60 (a := tot shares) (b := rd given i + 1) (A := 60) (B := 60) (by omega) (by omega)
      have h6 := mul60 (a := n) (b := rd shares i) (A := 60) (B := 60) (by omega) (by omega)
      rw [elig_second h, decide_eq_true_iff]
      omega
    obtain ⟨i, hi1, hi2⟩ := hex
    have hp := dPick_some (dElig shares given (tot shares) b n) (dOwn shares given (tot shares) b) shares.length ⟨i, hi1, hel i hi1 hi2⟩
    have hr := dPick_range (dElig shares given (tot shares) b n) (dOwn shares given (tot shares) b) shares.length
    rw [deadGo]
    generalize dPick (dElig shares given (tot shares) b n) (dOwn shares given (tot shares) b) shares.length = p at hr hp ⊢
    rcases hr with hr | ⟨j, hj1, hr, hr2, he⟩
    · omega
    · have ⟨f1, f2, f3, f4, f5⟩ := hG.facts j hj1
      have h5 := mul60 (a := tot shares) (b := rd given j) (A := 60) (B := 60) (by omega) (by omega)
      have how : dOwn shares given (tot shares) b j = tot shares := by
        have h7 : 60 ≤ (b + tot shares * rd given j) / rd shares j := (Int.le_ediv_iff_mul_le (by omega)).2 (by omega)
        rw [dOwn, mn, if_pos (by omega)]
      rw [if_neg (by omega), hr, Int.toNat_natCast]
      simp only [dElig, Bool.and_eq_true, decide_eq_true_iff] at he
      refine ih _ _ (n + 1) (by omega) (by omega) (hi.next hj1 he.1) ?_
      rw [tot_set _ _ (by rw [hi.len]; exact hj1)]
      omega
theorem tot_zeros (n : Nat) : tot (List.replicate n 0) = 0 := by
  induction n with
  | zero => rfl
  | succ n ih => rw [List.replicate_succ, tot, ih]; rfl
theorem dead_ok (shares : List Int) (hs : isShares shares = true) : (dead shares 3600).2 = true := by
  have ht := isShares_pos hs
  exact deadGo_ok shares hs 3600 (by omega) _ _ _ 1 (by omega) (by omega) (DInv.start hs) (by rw [tot_zeros]; rfl)
theorem dead_length (shares : List Int) (hs : isShares shares = true) (b : Int) : (dead shares b).1.length ≤ 60 := by
  have ht := isShares_pos hs
  have := deadGo_length shares (tot shares) b (tot shares).toNat (List.replicate shares.length 0) [] 1
  rw [dead]
  simp only [List.length_nil] at this
  omega
/-- the first number from b on for which there are deadline turns -/
def leastGo (f : Int → List Int × Bool) : Nat → Int → List Int × Int × Int
  | 0, b => ((f b).1, b, 0)
  | d + 1, b => if (f b).2 = true then ((f b).1, b, 0) else leastGo f d (b + 1)
theorem leastGo_from (f : Int → List Int × Bool) : ∀ (d : Nat) (b : Int), ∃ c, leastGo f d b = ((f c).1, c, 0) ∧ b ≤ c ∧ c ≤ b + d := by
  intro d
  induction d with
  | zero => intro b; exact ⟨b, rfl, by omega⟩
  | succ d ih =>
    intro b
    rw [leastGo]
    by_cases h : (f b).2 = true
    · exact ⟨b, by rw [if_pos h], by omega⟩
    · obtain ⟨c, h1, h2⟩ := ih (b + 1)
      exact ⟨c, by rw [if_neg h, h1], by omega⟩
def leastR (l : List Int) : List Int × Int × Int := if isShares l = true then leastGo (dead l) 3600 0 else ([], 0, 2)
theorem leastR_length (l : List Int) : (leastR l).1.length ≤ 60 := by
  unfold leastR
  split
  · rename_i h
    obtain ⟨c, h1, _⟩ := leastGo_from (dead l) 3600 0
    rw [h1]; exact dead_length l h c
  · simp
def deadR (l : List Int) (b : Int) : List Int × Int := if isShares l = true ∧ (0 ≤ b ∧ b ≤ 60) then (if (dead l b).2 = true then ((dead l b).1, 0) else ([], 4)) else ([], 2)
theorem deadR_length (l : List Int) (b : Int) : (deadR l b).1.length ≤ 60 := by
  unfold deadR
  split
  · rename_i h
    split
    · exact dead_length l h.1 b
    · simp
  · simp
end Go.Proofs.Ytpmconnonleokaa.Pure
end
section
namespace Go.Proofs.Ytpmconnonleokaa.Pure
open Go.RowKit Go.Proofs.Ytpmconnonleokaa.P Go.Proofs.YtpmconnonleokaaW.PrintWords Go.Proofs.YtpmconnonleokaaW.PrintLast Go.Proofs.YtpmconnonleokaaW.PrintMore
set_option linter.unusedVariables false
set_option linter.unusedSimpArgs false
theorem lastSlot_l0 (all s g b : Int) (ha : 1 ≤ all ∧ all ≤ 60) (hb : 0 ≤ b ∧ b ≤ 10000) (hs : 1 ≤ s ∧ s ≤ 60) (hg : 0 ≤ g ∧ g ≤ 60) : ∀ (d : Nat) (n : Int), n + d = all + 1 → 1 ≤ n → (n - 1) * s ≤ b + all * g →
    Ev (fun k => impl_lastSlot.l0 k all s (g + 1) b n) (mn ((b + all * g) / s + 1) all - 1) := by
  have h1 := mul60 (a := all) (b := g) (A := 60) (B := 60) (by omega) hg
  intro d
  induction d with
  | zero =>
    intro n hn h0 hle
    refine Ev.step (fun k => by rw [impl_lastSlot.l0]) ?_
    refine ev_neg (by omega) (ev_is ?_)
    have h2 : n - 1 ≤ (b + all * g) / s := (Int.le_ediv_iff_mul_le (by omega)).2 hle
    rw [wrap_id (by omega) (by omega), mn, if_pos (by omega)]
  | succ d ih =>
    intro n hn h0 hle
    have h2 := mul60 (a := n) (b := s) (A := 60) (B := 60) (by omega) (by omega)
    refine Ev.step (fun k => by rw [impl_lastSlot.l0]) ?_
    refine ev_pos (by omega) ?_
    rw [wrap_id (x := g + 1 - 1) (by omega) (by omega), show g + 1 - 1 = g by omega, wrap_id (x := n * s) (by omega) (by omega), wrap_id (x := all * g) (by omega) (by omega), wrap_id (x := n * s - all * g) (by omega) (by omega)]
    by_cases c : n * s - all * g > b
    · refine ev_pos c (ev_is ?_)
      have h3 : n - 1 ≤ (b + all * g) / s := (Int.le_ediv_iff_mul_le (by omega)).2 hle
      have h4 : (b + all * g) / s < n := (Int.ediv_lt_iff_lt_mul (by omega)).2 (by omega)
      rw [wrap_id (by omega) (by omega), mn, if_neg (by omega)]
      congr 1
      omega
    · refine ev_neg c ?_
      rw [wrap_id (x := n + 1) (by omega) (by omega)]
      exact ih (n + 1) (by omega) (by omega) (by rw [show n + 1 - 1 = n by omega]; omega)
theorem lastSlot_ev (all s g b : Int) (ha : 1 ≤ all ∧ all ≤ 60) (hb : 0 ≤ b ∧ b ≤ 10000) (hs : 1 ≤ s ∧ s ≤ 60) (hg : 0 ≤ g ∧ g ≤ 60) :
    Ev (fun k => impl_lastSlot.f k all s (g + 1) b) (mn ((b + all * g) / s + 1) all - 1) := by
  unfold impl_lastSlot.f
  have h1 := mul60 (a := all) (b := g) (A := 60) (B := 60) (by omega) hg
  exact lastSlot_l0 all s g b ha hb hs hg all.toNat 1 (by omega) (by omega) (by omega)
def lessOne (p : Int × Int) : Int := if p.1 < 0 then 0 else p.2 - 1
theorem Dead_impl_l1 (shares given out : List Int) (all b n : Int) (hG : DBnd shares given all b n) (R : List Int × Bool)
    (hR : Ev (fun k => impl_deadlines.l1 k shares b given all out n (dPick (dElig shares given all b n) (dOwn shares given all b) shares.length).1 (lessOne (dPick (dElig shares given all b n) (dOwn shares given all b) shares.length)) shares (shares.length : Int) (shares.length : Int)) R) :
    ∀ d j : Nat, j + d = shares.length → Ev (fun k => impl_deadlines.l1 k shares b given all out n (dPick (dElig shares given all b n) (dOwn shares given all b) j).1 (lessOne (dPick (dElig shares given all b n) (dOwn shares given all b) j)) shares (shares.length : Int) (j : Int)) R := by
  have hlen := hG.inv.len
  have hpos := ((isShares_iff shares).1 hG.sh).1
  intro d
  induction d with
  | zero =>
    intro j hj
    obtain rfl : j = shares.length := by omega
    exact hR
  | succ d ih =>
    intro j hj
    have hlt : j < shares.length := by omega
    have ⟨f1, f2, f3, f4, f5⟩ := hG.facts j hlt
    have h5 := mul60 (a := all) (b := rd given j + 1) (A := 60) (B := 61) (by omega) (by omega)
    have h6 := mul60 (a := n) (b := rd shares j) (A := 60) (B := 60) (by omega) (by omega)
    have hih := ih (j + 1) (by omega)
    rw [dPick] at hih
    have hr := dPick_range (dElig shares given all b n) (dOwn shares given all b) j
    generalize dPick (dElig shares given all b n) (dOwn shares given all b) j = p at hih hr ⊢
    refine Ev.step (fun k => by rw [impl_deadlines.l1]) ?_
    refine ev_pos (by omega) (ev_pos (by omega) (ev_pos (by omega) (ev_pos (by omega) ?_)))
    rw [wrap_id (x := rd given j + 1) (by omega) (by omega)]
    have hskip : dElig shares given all b n j = false → Ev (fun k => impl_deadlines.j2 k shares b given all out n p.1 (lessOne p) (j : Int) (rd shares j) (rd given j + 1) shares (shares.length : Int) (j : Int) true) R := by
      intro he
      rw [he, if_neg (by simp)] at hih
      refine Ev.step (fun k => by rw [impl_deadlines.j2]) ?_
      refine ev_pos rfl ?_
      rw [wrap_succ (by omega)]
      exact hih
    by_cases c1 : rd given j + 1 > rd shares j
    · exact ev_pos c1 (hskip (elig_false (by omega)))
    · refine ev_neg c1 ?_
      rw [wrap_id (x := all * (rd given j + 1)) (by omega) (by omega), wrap_id (x := n * rd shares j) (by omega) (by omega), wrap_id (x := _ - _) (by omega) (by omega), gt_flip, ← elig_second (n := n) (b := b) (all := all) (by omega)]
      cases he : dElig shares given all b n j with
      | false => exact hskip he
      | true =>
        rw [he, if_pos rfl] at hih
        refine Ev.step (fun k => by rw [impl_deadlines.j2]) ?_
        refine ev_neg (by simp) (ev_bind (lastSlot_ev all (rd shares j) (rd given j) b f1 f5 f3 f2) ?_)
        rw [wrap_succ (by omega)]
        by_cases c2 : p.1 < 0
        · rw [if_pos (.inl c2)] at hih
          refine ev_pos (by omega) ?_
          have e : lessOne ((j : Int), dOwn shares given all b j) = mn ((b + all * rd given j) / rd shares j + 1) all - 1 := by rw [lessOne, if_neg (by omega)]; rfl
          rw [e] at hih
          exact hih
        · refine ev_neg (by omega) ?_
          have el : lessOne p = p.2 - 1 := by rw [lessOne, if_neg c2]
          by_cases c3 : dOwn shares given all b j < p.2
          · rw [if_pos (.inr c3)] at hih
            have e : lessOne ((j : Int), dOwn shares given all b j) = mn ((b + all * rd given j) / rd shares j + 1) all - 1 := by rw [lessOne, if_neg (by omega)]; rfl
            rw [e] at hih
            refine ev_pos ?_ hih
            rw [el]; unfold dOwn at c3; omega
          · rw [if_neg (fun h => h.elim c2 c3)] at hih
            refine ev_neg ?_ hih
            rw [el]; unfold dOwn at c3; omega
theorem Dead_impl_l0 (shares : List Int) (hs : isShares shares = true) (b : Int) (hb : 0 ≤ b ∧ b ≤ 10000) : ∀ (d : Nat) (given out : List Int) (n : Int), n + d = tot shares + 1 → 1 ≤ n → out.length = n - 1 → DInv shares given →
    Ev (fun k => impl_deadlines.l0 k shares b given (tot shares) out n) (deadGo shares (tot shares) b d given out n) := by
  have ht := isShares_pos hs
  have hpos := ((isShares_iff shares).1 hs).1
  intro d
  induction d with
  | zero =>
    intro given out n hn h0 ho hi
    show Ev _ (out, true)
    refine Ev.step (fun k => by rw [impl_deadlines.l0]) ?_
    exact ev_neg (by omega) (ev_now _)
  | succ d ih =>
    intro given out n hn h0 ho hi
    have hG : DBnd shares given (tot shares) b n := ⟨hs, rfl, hi, hb, by omega⟩
    refine Ev.step (fun k => by rw [impl_deadlines.l0]) ?_
    refine ev_pos (by omega) (Dead_impl_l1 shares given out (tot shares) b n hG _ ?_ shares.length 0 (by omega))
    have hr := dPick_range (dElig shares given (tot shares) b n) (dOwn shares given (tot shares) b) shares.length
    rw [deadGo]
    generalize dPick (dElig shares given (tot shares) b n) (dOwn shares given (tot shares) b) shares.length = p at hr ⊢
    refine Ev.step (fun k => by rw [impl_deadlines.l1]) ?_
    refine ev_neg (by omega) ?_
    rcases hr with hr | ⟨i, hi1, hr, hr2, he⟩
    · rw [if_pos (.inl (by omega))]
      exact ev_pos hr (ev_now _)
    · refine ev_neg (by omega) ?_
      rw [wrap_id (x := n - 1) (by omega) (by omega), show lessOne p = p.2 - 1 by rw [lessOne, if_neg (by omega)]]
      by_cases c : p.2 < n
      · rw [if_pos (.inr c)]
        exact ev_pos (by omega) (ev_now _)
      · rw [if_neg (by omega)]
        have hf := hG.facts i hi1
        simp only [dElig, Bool.and_eq_true, decide_eq_true_iff] at he
        refine ev_neg (by omega) (ev_pos (by omega) (ev_pos (by rw [hi.len]; omega) (ev_pos (by omega) ?_)))
        rw [hr, wrap_id (x := n + 1) (by omega) (by omega), wrap_id (x := rd given i + 1) (by omega) (by omega), Int.toNat_natCast]
        exact ih _ _ (n + 1) (by omega) (by omega) (by rw [List.length_append, List.length_singleton]; omega) (hi.next hi1 he.1)
theorem deadlines_ev (shares : List Int) (hs : isShares shares = true) (b : Int) (hb : 0 ≤ b ∧ b ≤ 10000) : Ev (fun k => impl_deadlines.f k shares b) (dead shares b) := by
  unfold impl_deadlines.f dead
  have h1 := (isShares_iff shares).1 hs
  have ht := isShares_pos hs
  refine ev_pos (by omega) (ev_pos (by omega) (ev_bind (total_ev shares (by omega) (fun x hx => by have := h1.2.1 x hx; omega)) ?_))
  rw [Int.toNat_natCast]
  exact Dead_impl_l0 shares hs b hb _ _ [] 1 (by omega) (by omega) (by simp) (DInv.start hs)
end Go.Proofs.Ytpmconnonleokaa.Pure
end
section
namespace Go.Proofs.Ytpmconnonleokaa.Pure
open Go.RowKit Go.Proofs.Ytpmconnonleokaa.P Go.Proofs.YtpmconnonleokaaW.PrintWords Go.Proofs.YtpmconnonleokaaW.PrintLast Go.Proofs.YtpmconnonleokaaW.PrintMore
set_option linter.unusedVariables false
set_option linter.unusedSimpArgs false
theorem spec_DeadlineTurns_ev (l : List Int) (b : Int) (hl : l.length ≤ 1048576) : Ev (fun k => spec_DeadlineTurns.f k l b) (deadR l b) := by
  unfold spec_DeadlineTurns.f deadR
  refine ev_bind (l07Sum_ev l hl) ?_
  by_cases hs : isShares l = true
  · have ht := isShares_pos hs
    rw [if_pos hs]
    refine ev_neg (by omega) (ev_fix (l01In_f _ _ _) ?_)
    refine Ev.step (fun k => by rw [spec_DeadlineTurns.j0]) ?_
    by_cases hb : 0 ≤ b ∧ b ≤ 60
    · rw [decide_eq_true hb, if_pos ⟨hs, hb⟩]
      refine ev_neg (by simp) (ev_bind (l07Deadline_ev l hs b (by omega)) ?_)
      cases h : (dead l b).2 with
      | true => exact ev_pos rfl (ev_now _)
      | false => exact ev_neg (by simp) (ev_is (by simp))
    · rw [decide_eq_false hb, if_neg (fun h => hb h.2)]
      exact ev_pos rfl (ev_now _)
  · rw [if_neg hs, if_neg (fun h => hs h.1)]
    refine ev_pos rfl ?_
    refine Ev.step (fun k => by rw [spec_DeadlineTurns.j0]) ?_
    exact ev_pos rfl (ev_now _)
theorem impl_DeadlineTurns_ev (l : List Int) (b : Int) (hl : l.length ≤ 1048576) : Ev (fun k => impl_DeadlineTurns.f k l b) (deadR l b) := by
  unfold impl_DeadlineTurns.f deadR
  refine ev_bind (areShares_ev l hl) ?_
  by_cases hs : isShares l = true
  · rw [hs]
    refine ev_pos rfl (ev_fix (within_f _ _ _) ?_)
    refine Ev.step (fun k => by rw [impl_DeadlineTurns.j0]) ?_
    by_cases hb : 0 ≤ b ∧ b ≤ 60
    · rw [decide_eq_true hb, if_pos ⟨rfl, hb⟩]
      refine ev_neg (by simp) (ev_bind (deadlines_ev l hs b (by omega)) ?_)
      cases h : (dead l b).2 with
      | true => exact ev_pos rfl (ev_now _)
      | false => exact ev_neg (by simp) (ev_is (by simp))
    · rw [decide_eq_false hb, if_neg (fun h => hb h.2)]
      exact ev_pos rfl (ev_now _)
  · rw [if_neg (fun h => hs h.1)]
    refine ev_neg hs ?_
    refine Ev.step (fun k => by rw [impl_DeadlineTurns.j0]) ?_
    exact ev_pos rfl (ev_now _)
end Go.Proofs.Ytpmconnonleokaa.Pure
end
section
namespace Go.Proofs.Ytpmconnonleokaa.Pure
set_option linter.unusedVariables false
set_option linter.unusedSimpArgs false
/-- how often x stands in a list -/
def cnt (x : Int) : List Int → Int
  | [] => 0
  | y :: l => (if y = x then 1 else 0) + cnt x l
theorem cnt_append (x : Int) (a b : List Int) : cnt x (a ++ b) = cnt x a + cnt x b := by
  induction a with
  | nil => simp [cnt]
  | cons y a ih => simp only [List.cons_append, cnt, ih]; omega
theorem cnt_take_succ (x : Int) (l : List Int) (n : Nat) (h : n < l.length) : cnt x (l.take (n + 1)) = cnt x (l.take n) + (if l[n] = x then 1 else 0) := by
  rw [List.take_succ_eq_append_getElem h, cnt_append]; simp [cnt]
theorem cnt_bounds (x : Int) (l : List Int) : 0 ≤ cnt x l ∧ cnt x l ≤ l.length := by
  induction l with
  | nil => simp [cnt]
  | cons y l ih =>
    simp only [cnt, List.length_cons]
    split <;> omega
/-- a list of the values of a function at 0, 1, .. -/
def tab (f : Nat → Int) (m : Nat) : List Int := (List.range' 0 m).map f
theorem tab_length (f : Nat → Int) (m : Nat) : (tab f m).length = m := by simp [tab]
theorem tab_get (f : Nat → Int) (m i : Nat) (h : i < (tab f m).length) : (tab f m)[i] = f i := by simp [tab]
theorem tab_succ (f : Nat → Int) (m : Nat) : tab f (m + 1) = tab f m ++ [f m] := by simp [tab, List.range'_1_concat]
theorem tab_ext {f : Nat → Int} {m : Nat} {l : List Int} (hl : l.length = m) (h : ∀ i (hi : i < l.length), l[i] = f i) : l = tab f m := by
  refine List.ext_getElem (by rw [tab_length]; exact hl) fun i h1 h2 => ?_
  rw [tab_get, h]
theorem tab_congr {f g : Nat → Int} {m : Nat} (h : ∀ i, i < m → f i = g i) : tab f m = tab g m :=
  tab_ext (tab_length f m) fun i hi => by rw [tab_get]; exact h i (by rw [tab_length] at hi; exact hi)
theorem tab_set (f : Nat → Int) (m b : Nat) (x : Int) : (tab f m).set b x = tab (fun i => if i = b then x else f i) m := by
  refine tab_ext (by rw [List.length_set, tab_length]) fun i hi => ?_
  rw [List.getElem_set]
  by_cases e : b = i
  · subst e; simp
  · rw [if_neg e, if_neg (fun h => e h.symm), tab_get]
theorem tab_zero (m : Nat) : tab (fun _ => 0) m = List.replicate m 0 := (tab_ext (by simp) fun i hi => by simp).symm
end Go.Proofs.Ytpmconnonleokaa.Pure
end
section
namespace Go.Proofs.Ytpmconnonleokaa.Pure
open Go.RowKit Go.Proofs.Ytpmconnonleokaa.P Go.Proofs.YtpmconnonleokaaW.PrintWords Go.Proofs.YtpmconnonleokaaW.PrintLast Go.Proofs.YtpmconnonleokaaW.PrintMore
set_option linter.unusedVariables false
set_option linter.unusedSimpArgs false
/-- the greatest of a list, and 0 -/
def great (l : List Int) : Int := l.foldl mx 0
theorem le_mx (a b : Int) : a ≤ mx a b ∧ b ≤ mx a b := by unfold mx; split <;> omega
theorem le_foldl_mx (l : List Int) : ∀ a, a ≤ l.foldl mx a ∧ ∀ x ∈ l, x ≤ l.foldl mx a := by
  induction l with
  | nil => intro a; simp
  | cons y l ih =>
    intro a
    have h := ih (mx a y)
    have h2 := le_mx a y
    simp only [List.foldl_cons]
    refine ⟨by omega, ?_⟩
    intro x hx
    rcases List.mem_cons.1 hx with rfl | hx
    · omega
    · exact h.2 x hx
theorem great_take_succ (l : List Int) (n : Nat) (h : n < l.length) : great (l.take (n + 1)) = mx (great (l.take n)) l[n] := by
  rw [List.take_succ_eq_append_getElem h, great, List.foldl_append]; rfl
theorem great_pos {l : List Int} {x : Int} (h : x ∈ l) : x ≤ great l := (le_foldl_mx l 0).2 x h
end Go.Proofs.Ytpmconnonleokaa.Pure
end
section
namespace Go.Proofs.Ytpmconnonleokaa.Pure
open Go.RowKit Go.Proofs.Ytpmconnonleokaa.P Go.Proofs.YtpmconnonleokaaW.PrintWords Go.Proofs.YtpmconnonleokaaW.PrintLast Go.Proofs.YtpmconnonleokaaW.PrintMore
set_option linter.unusedVariables false
set_option linter.unusedSimpArgs false
theorem Index_l0 (l : List Int) (x : Int) (hl : l.length ≤ 9223372036854775807) : ∀ d n : Nat, n + d = l.length → (∀ y ∈ l.take n, y ≠ x) → Ev (fun k => slices_Index_Sint64_int64.l0 k l x (l.length : Int) (n : Int)) (if x ∈ l then (l.idxOf x : Int) else -1) := by
  intro d
  induction d with
  | zero =>
    intro n hn hno
    refine Ev.step (fun k => by rw [slices_Index_Sint64_int64.l0]) (ev_neg (by omega) (ev_is ?_))
    rw [List.take_of_length_le (by omega)] at hno
    rw [if_neg (fun h => hno x h rfl)]
  | succ d ih =>
    intro n hn hno
    have hlt : n < l.length := by omega
    refine Ev.step (fun k => by rw [slices_Index_Sint64_int64.l0]) (ev_pos (by omega) (ev_pos (by omega) (ev_pos (by omega) ?_)))
    rw [rd_nat hlt]
    by_cases h : x = l[n]
    · refine ev_pos h (ev_is ?_)
      rw [if_pos (h ▸ List.getElem_mem hlt)]
      congr 2
      symm
      rw [List.idxOf, List.findIdx_eq hlt]
      refine ⟨by simp [h], fun j hj => ?_⟩
      have := hno l[j] (List.mem_take_iff_getElem.2 ⟨j, by omega, rfl⟩)
      simpa using this
    · refine ev_neg h ?_
      rw [wrap_succ (by omega)]
      refine ih (n + 1) (by omega) ?_
      rw [List.take_succ_eq_append_getElem hlt]
      intro y hy
      rcases List.mem_append.1 hy with hy | hy
      · exact hno y hy
      · rw [List.mem_singleton.1 hy]; exact fun e => h e.symm
theorem Index_ev (l : List Int) (x : Int) (hl : l.length ≤ 9223372036854775807) : Ev (fun k => slices_Index_Sint64_int64.f k l x) (if x ∈ l then (l.idxOf x : Int) else -1) := by
  unfold slices_Index_Sint64_int64.f
  exact Index_l0 l x hl l.length 0 (by omega) (by simp)
theorem Contains_ev (l : List Int) (x : Int) (hl : l.length ≤ 9223372036854775807) : Ev (fun k => slices_Contains_Sint64_int64.f k l x) (l.contains x) := by
  unfold slices_Contains_Sint64_int64.f
  refine ev_bind (Index_ev l x hl) (ev_is ?_)
  by_cases h : x ∈ l
  · rw [if_pos h, List.contains_eq_mem, decide_eq_true h]; simp
  · rw [if_neg h, List.contains_eq_mem, decide_eq_false h]; simp
end Go.Proofs.Ytpmconnonleokaa.Pure
end
section
namespace Go.Proofs.Ytpmconnonleokaa.Pure
open Go.RowKit Go.Proofs.Ytpmconnonleokaa.P Go.Proofs.YtpmconnonleokaaW.PrintWords Go.Proofs.YtpmconnonleokaaW.PrintLast Go.Proofs.YtpmconnonleokaaW.PrintMore
set_option linter.unusedVariables false
set_option linter.unusedSimpArgs false
def isTurns (l : List Int) (k : Int) : Bool := decide (1 ≤ (l.length : Int) ∧ (l.length : Int) ≤ 120) && l.all fun i => decide (-1 ≤ i ∧ i ≤ wrap64 (k - 1))
theorem areTurns_f (l : List Int) (k : Int) : impl_areTurns.f l k = some (isTurns l k) := rfl
theorem l01Turns_l0 (l : List Int) (m : Int) (hl : l.length ≤ 9223372036854775807) : ∀ d n : Nat, n + d = l.length → (l.take n).all (fun i => decide (-1 ≤ i ∧ i ≤ wrap64 (m - 1))) = true → Ev (fun k => spec_l01Turns.l0 k l m (n : Int)) (isTurns l m) := by
  intro d
  induction d with
  | zero =>
    intro n hn ha
    refine Ev.step (fun k => by rw [spec_l01Turns.l0]) ?_
    refine ev_neg (by omega) (ev_fix (l01In_f _ _ _) ?_)
    rw [List.take_of_length_le (by omega)] at ha
    refine ev_is ?_
    rw [isTurns, ha, Bool.and_true]
  | succ d ih =>
    intro n hn ha
    have hlt : n < l.length := by omega
    refine Ev.step (fun k => by rw [spec_l01Turns.l0]) ?_
    refine ev_pos (by omega) (ev_pos (by omega) (ev_fix (l01In_f _ _ _) ?_))
    rw [rd_nat hlt]
    cases hq : decide (-1 ≤ l[n] ∧ l[n] ≤ wrap64 (m - 1)) with
    | true =>
      refine ev_pos rfl ?_
      rw [wrap_succ (by omega)]
      exact ih (n + 1) (by omega) (by rw [all_take_succ _ _ _ hlt, ha, hq]; rfl)
    | false =>
      refine ev_neg (by simp) (ev_is ?_)
      rw [isTurns, all_false_at _ l n hlt hq, Bool.and_false]
theorem l01Turns_ev (l : List Int) (m : Int) (hl : l.length ≤ 9223372036854775807) : Ev (fun k => spec_l01Turns.f k l m) (isTurns l m) := by
  unfold spec_l01Turns.f
  exact l01Turns_l0 l m hl l.length 0 (by omega) (by simp)
end Go.Proofs.Ytpmconnonleokaa.Pure
end
