/- Exchanges go back, best exchanges give less squares, smooth turns have no more squares and no better exchange, and spreads are told by waits. -/
import Derived.Test.YtfmjckkgnieccaaCFnExchanges6
section
namespace Go.Proofs.Ytfmjckkgnieccaa.P
open Go.RowKit Go.Proofs.YtfmjckkgnieccaaW.PrintWords Go.Proofs.YtfmjckkgnieccaaW.PrintLast Go.Proofs.YtfmjckkgnieccaaW.PrintMore
attribute [local go_sem] max2_int min2_int max_two min_two max_three min_three max_four min_four   -- for this text's walks alone
set_option linter.unusedVariables false
set_option linter.unusedSimpArgs false
set_option maxHeartbeats 8000000 in
set_option maxRecDepth 100000 in
theorem laws_FnExchanges.calls (k : Nat) (A0 : Option Addr) (c0 : Nat) (l0 : List Int) (r : Bool) (w : World) (hr0 : Kd.C (Kd.int .u8) w A0 l0.length l0) (hc0 : l0.length ≤ c0) (h : laws_FnExchanges.f k l0 = some r) :
    Calls Try.prog 3 #[.slice A0 l0.length c0] w fun e w' => e = .returned (.bool r) ∧ Below w.heap.size w w' := by
 have HR0 := Aside0.mk hr0
 have HC0 := Aside0.mk hc0
 clear hr0 hc0
 have HB := Aside0.mk (Below.refl w.heap.size w)
 have H : ((laws_big.f l0).bind fun t101 => (if t101 = true then (some true) else ((spec_DrawSmoothTurns.f k l0).bind fun t102 => ((impl_SmoothTurns.f k t102).bind fun bt105 => ((spec_SmoothTurns.f k t102).bind fun bt109 => ((impl_SquaresOf.f k t102).bind fun bt113 => ((spec_SquaresOf.f k t102).bind fun bt115 => ((impl_BestExchange.f k t102).bind fun bt117 => ((spec_BestExchange.f k t102).bind fun bt120 => (if bt105.2 = bt109.2 then ((laws_likeInts.f k bt105.1 bt109.1).bind fun t123 => (if t123 = true then (if bt113.2 = bt115.2 then (if bt113.1 = bt115.1 then (if bt117.2.2 = bt120.2.2 then (if bt117.1 = bt120.1 then (laws_FnExchanges.j0 k l0 t102 bt105.1 bt105.2 bt113.1 bt117.1 bt117.2.1 bt117.2.2 (bt117.2.1 != bt120.2.1)) else (laws_FnExchanges.j0 k l0 t102 bt105.1 bt105.2 bt113.1 bt117.1 bt117.2.1 bt117.2.2 true)) else (laws_FnExchanges.j0 k l0 t102 bt105.1 bt105.2 bt113.1 bt117.1 bt117.2.1 bt117.2.2 true)) else (laws_FnExchanges.j0 k l0 t102 bt105.1 bt105.2 bt113.1 bt117.1 bt117.2.1 bt117.2.2 true)) else (laws_FnExchanges.j0 k l0 t102 bt105.1 bt105.2 bt113.1 bt117.1 bt117.2.1 bt117.2.2 true)) else (laws_FnExchanges.j0 k l0 t102 bt105.1 bt105.2 bt113.1 bt117.1 bt117.2.1 bt117.2.2 true))) else (laws_FnExchanges.j0 k l0 t102 bt105.1 bt105.2 bt113.1 bt117.1 bt117.2.1 bt117.2.2 true))))))))))) = some r := h
 clear h
 replace H := Option.bind_eq_some_iff.mp H
 obtain ⟨t101, A20, H⟩ := H
 replace H : (if t101 = true then (some true) else ((spec_DrawSmoothTurns.f k l0).bind fun t102 => ((impl_SmoothTurns.f k t102).bind fun bt105 => ((spec_SmoothTurns.f k t102).bind fun bt109 => ((impl_SquaresOf.f k t102).bind fun bt113 => ((spec_SquaresOf.f k t102).bind fun bt115 => ((impl_BestExchange.f k t102).bind fun bt117 => ((spec_BestExchange.f k t102).bind fun bt120 => (if bt105.2 = bt109.2 then ((laws_likeInts.f k bt105.1 bt109.1).bind fun t123 => (if t123 = true then (if bt113.2 = bt115.2 then (if bt113.1 = bt115.1 then (if bt117.2.2 = bt120.2.2 then (if bt117.1 = bt120.1 then (laws_FnExchanges.j0 k l0 t102 bt105.1 bt105.2 bt113.1 bt117.1 bt117.2.1 bt117.2.2 (bt117.2.1 != bt120.2.1)) else (laws_FnExchanges.j0 k l0 t102 bt105.1 bt105.2 bt113.1 bt117.1 bt117.2.1 bt117.2.2 true)) else (laws_FnExchanges.j0 k l0 t102 bt105.1 bt105.2 bt113.1 bt117.1 bt117.2.1 bt117.2.2 true)) else (laws_FnExchanges.j0 k l0 t102 bt105.1 bt105.2 bt113.1 bt117.1 bt117.2.1 bt117.2.2 true)) else (laws_FnExchanges.j0 k l0 t102 bt105.1 bt105.2 bt113.1 bt117.1 bt117.2.1 bt117.2.2 true)) else (laws_FnExchanges.j0 k l0 t102 bt105.1 bt105.2 bt113.1 bt117.1 bt117.2.1 bt117.2.2 true))) else (laws_FnExchanges.j0 k l0 t102 bt105.1 bt105.2 bt113.1 bt117.1 bt117.2.1 bt117.2.2 true)))))))))) = some r := H
 have A2 := Aside0.mk A20
 clear A20
 by_cases c3 : t101 = true
 ·
  subst c3
  have H1 : (some true) = some r := by rw [if_pos rfl] at H; exact H
  clear H
  have H := H1
  clear H1
  obtain rfl := Option.some.inj H
  go_enter Try.func3, Try.ntmps3
  go_wp2_with (first | (go_at_call 4; (with_reducible refine (laws_big.calls _ _ l0 true _ ?side1 ?side2 A2.out).mono ?_); (case side1 => exact zC HR0.out); (case side2 => exact HC0.out); rintro e w' ⟨rfl, ⟨nd, rfl⟩⟩; (try exact zd)))
  repeat (go_quiet (first | (go_at_call 4; (with_reducible refine (laws_big.calls _ _ l0 true _ ?side1 ?side2 A2.out).mono ?_); (case side1 => exact zC HR0.out); (case side2 => exact HC0.out); rintro e w' ⟨rfl, ⟨nd, rfl⟩⟩; (try exact zd))); try go_wp2_with (first | (go_at_call 4; (with_reducible refine (laws_big.calls _ _ l0 true _ ?side1 ?side2 A2.out).mono ?_); (case side1 => exact zC HR0.out); (case side2 => exact HC0.out); rintro e w' ⟨rfl, ⟨nd, rfl⟩⟩; (try exact zd))))
  go_ret
  exact ⟨zE, zB⟩
 replace c3 := Bool.eq_false_iff.mpr c3
 subst c3
 have H1 : ((spec_DrawSmoothTurns.f k l0).bind fun t102 => ((impl_SmoothTurns.f k t102).bind fun bt105 => ((spec_SmoothTurns.f k t102).bind fun bt109 => ((impl_SquaresOf.f k t102).bind fun bt113 => ((spec_SquaresOf.f k t102).bind fun bt115 => ((impl_BestExchange.f k t102).bind fun bt117 => ((spec_BestExchange.f k t102).bind fun bt120 => (if bt105.2 = bt109.2 then ((laws_likeInts.f k bt105.1 bt109.1).bind fun t123 => (if t123 = true then (if bt113.2 = bt115.2 then (if bt113.1 = bt115.1 then (if bt117.2.2 = bt120.2.2 then (if bt117.1 = bt120.1 then (laws_FnExchanges.j0 k l0 t102 bt105.1 bt105.2 bt113.1 bt117.1 bt117.2.1 bt117.2.2 (bt117.2.1 != bt120.2.1)) else (laws_FnExchanges.j0 k l0 t102 bt105.1 bt105.2 bt113.1 bt117.1 bt117.2.1 bt117.2.2 true)) else (laws_FnExchanges.j0 k l0 t102 bt105.1 bt105.2 bt113.1 bt117.1 bt117.2.1 bt117.2.2 true)) else (laws_FnExchanges.j0 k l0 t102 bt105.1 bt105.2 bt113.1 bt117.1 bt117.2.1 bt117.2.2 true)) else (laws_FnExchanges.j0 k l0 t102 bt105.1 bt105.2 bt113.1 bt117.1 bt117.2.1 bt117.2.2 true)) else (laws_FnExchanges.j0 k l0 t102 bt105.1 bt105.2 bt113.1 bt117.1 bt117.2.1 bt117.2.2 true))) else (laws_FnExchanges.j0 k l0 t102 bt105.1 bt105.2 bt113.1 bt117.1 bt117.2.1 bt117.2.2 true))))))))) = some r := by rw [if_neg (show ¬ (false = true) by decide)] at H; exact H
 clear H
 have H := H1
 clear H1
 replace H := Option.bind_eq_some_iff.mp H
 obtain ⟨t102, A40, H⟩ := H
 replace H : ((impl_SmoothTurns.f k t102).bind fun bt105 => ((spec_SmoothTurns.f k t102).bind fun bt109 => ((impl_SquaresOf.f k t102).bind fun bt113 => ((spec_SquaresOf.f k t102).bind fun bt115 => ((impl_BestExchange.f k t102).bind fun bt117 => ((spec_BestExchange.f k t102).bind fun bt120 => (if bt105.2 = bt109.2 then ((laws_likeInts.f k bt105.1 bt109.1).bind fun t123 => (if t123 = true then (if bt113.2 = bt115.2 then (if bt113.1 = bt115.1 then (if bt117.2.2 = bt120.2.2 then (if bt117.1 = bt120.1 then (laws_FnExchanges.j0 k l0 t102 bt105.1 bt105.2 bt113.1 bt117.1 bt117.2.1 bt117.2.2 (bt117.2.1 != bt120.2.1)) else (laws_FnExchanges.j0 k l0 t102 bt105.1 bt105.2 bt113.1 bt117.1 bt117.2.1 bt117.2.2 true)) else (laws_FnExchanges.j0 k l0 t102 bt105.1 bt105.2 bt113.1 bt117.1 bt117.2.1 bt117.2.2 true)) else (laws_FnExchanges.j0 k l0 t102 bt105.1 bt105.2 bt113.1 bt117.1 bt117.2.1 bt117.2.2 true)) else (laws_FnExchanges.j0 k l0 t102 bt105.1 bt105.2 bt113.1 bt117.1 bt117.2.1 bt117.2.2 true)) else (laws_FnExchanges.j0 k l0 t102 bt105.1 bt105.2 bt113.1 bt117.1 bt117.2.1 bt117.2.2 true))) else (laws_FnExchanges.j0 k l0 t102 bt105.1 bt105.2 bt113.1 bt117.1 bt117.2.1 bt117.2.2 true)))))))) = some r := H
 have A4 := Aside0.mk A40
 clear A40
 replace H := Option.bind_eq_some_iff.mp H
 obtain ⟨⟨t105, t106⟩, A50, H⟩ := H
 replace H : ((spec_SmoothTurns.f k t102).bind fun bt109 => ((impl_SquaresOf.f k t102).bind fun bt113 => ((spec_SquaresOf.f k t102).bind fun bt115 => ((impl_BestExchange.f k t102).bind fun bt117 => ((spec_BestExchange.f k t102).bind fun bt120 => (if t106 = bt109.2 then ((laws_likeInts.f k t105 bt109.1).bind fun t123 => (if t123 = true then (if bt113.2 = bt115.2 then (if bt113.1 = bt115.1 then (if bt117.2.2 = bt120.2.2 then (if bt117.1 = bt120.1 then (laws_FnExchanges.j0 k l0 t102 t105 t106 bt113.1 bt117.1 bt117.2.1 bt117.2.2 (bt117.2.1 != bt120.2.1)) else (laws_FnExchanges.j0 k l0 t102 t105 t106 bt113.1 bt117.1 bt117.2.1 bt117.2.2 true)) else (laws_FnExchanges.j0 k l0 t102 t105 t106 bt113.1 bt117.1 bt117.2.1 bt117.2.2 true)) else (laws_FnExchanges.j0 k l0 t102 t105 t106 bt113.1 bt117.1 bt117.2.1 bt117.2.2 true)) else (laws_FnExchanges.j0 k l0 t102 t105 t106 bt113.1 bt117.1 bt117.2.1 bt117.2.2 true)) else (laws_FnExchanges.j0 k l0 t102 t105 t106 bt113.1 bt117.1 bt117.2.1 bt117.2.2 true))) else (laws_FnExchanges.j0 k l0 t102 t105 t106 bt113.1 bt117.1 bt117.2.1 bt117.2.2 true))))))) = some r := H
 have A5 := Aside0.mk A50
 clear A50
 replace H := Option.bind_eq_some_iff.mp H
 obtain ⟨⟨t109, t110⟩, A60, H⟩ := H
 replace H : ((impl_SquaresOf.f k t102).bind fun bt113 => ((spec_SquaresOf.f k t102).bind fun bt115 => ((impl_BestExchange.f k t102).bind fun bt117 => ((spec_BestExchange.f k t102).bind fun bt120 => (if t106 = t110 then ((laws_likeInts.f k t105 t109).bind fun t123 => (if t123 = true then (if bt113.2 = bt115.2 then (if bt113.1 = bt115.1 then (if bt117.2.2 = bt120.2.2 then (if bt117.1 = bt120.1 then (laws_FnExchanges.j0 k l0 t102 t105 t106 bt113.1 bt117.1 bt117.2.1 bt117.2.2 (bt117.2.1 != bt120.2.1)) else (laws_FnExchanges.j0 k l0 t102 t105 t106 bt113.1 bt117.1 bt117.2.1 bt117.2.2 true)) else (laws_FnExchanges.j0 k l0 t102 t105 t106 bt113.1 bt117.1 bt117.2.1 bt117.2.2 true)) else (laws_FnExchanges.j0 k l0 t102 t105 t106 bt113.1 bt117.1 bt117.2.1 bt117.2.2 true)) else (laws_FnExchanges.j0 k l0 t102 t105 t106 bt113.1 bt117.1 bt117.2.1 bt117.2.2 true)) else (laws_FnExchanges.j0 k l0 t102 t105 t106 bt113.1 bt117.1 bt117.2.1 bt117.2.2 true))) else (laws_FnExchanges.j0 k l0 t102 t105 t106 bt113.1 bt117.1 bt117.2.1 bt117.2.2 true)))))) = some r := H
 have A6 := Aside0.mk A60
 clear A60
 replace H := Option.bind_eq_some_iff.mp H
 obtain ⟨⟨t113, t114⟩, A70, H⟩ := H
 replace H : ((spec_SquaresOf.f k t102).bind fun bt115 => ((impl_BestExchange.f k t102).bind fun bt117 => ((spec_BestExchange.f k t102).bind fun bt120 => (if t106 = t110 then ((laws_likeInts.f k t105 t109).bind fun t123 => (if t123 = true then (if t114 = bt115.2 then (if t113 = bt115.1 then (if bt117.2.2 = bt120.2.2 then (if bt117.1 = bt120.1 then (laws_FnExchanges.j0 k l0 t102 t105 t106 t113 bt117.1 bt117.2.1 bt117.2.2 (bt117.2.1 != bt120.2.1)) else (laws_FnExchanges.j0 k l0 t102 t105 t106 t113 bt117.1 bt117.2.1 bt117.2.2 true)) else (laws_FnExchanges.j0 k l0 t102 t105 t106 t113 bt117.1 bt117.2.1 bt117.2.2 true)) else (laws_FnExchanges.j0 k l0 t102 t105 t106 t113 bt117.1 bt117.2.1 bt117.2.2 true)) else (laws_FnExchanges.j0 k l0 t102 t105 t106 t113 bt117.1 bt117.2.1 bt117.2.2 true)) else (laws_FnExchanges.j0 k l0 t102 t105 t106 t113 bt117.1 bt117.2.1 bt117.2.2 true))) else (laws_FnExchanges.j0 k l0 t102 t105 t106 t113 bt117.1 bt117.2.1 bt117.2.2 true))))) = some r := H
 have A7 := Aside0.mk A70
 clear A70
 replace H := Option.bind_eq_some_iff.mp H
 obtain ⟨⟨t115, t116⟩, A80, H⟩ := H
 replace H : ((impl_BestExchange.f k t102).bind fun bt117 => ((spec_BestExchange.f k t102).bind fun bt120 => (if t106 = t110 then ((laws_likeInts.f k t105 t109).bind fun t123 => (if t123 = true then (if t114 = t116 then (if t113 = t115 then (if bt117.2.2 = bt120.2.2 then (if bt117.1 = bt120.1 then (laws_FnExchanges.j0 k l0 t102 t105 t106 t113 bt117.1 bt117.2.1 bt117.2.2 (bt117.2.1 != bt120.2.1)) else (laws_FnExchanges.j0 k l0 t102 t105 t106 t113 bt117.1 bt117.2.1 bt117.2.2 true)) else (laws_FnExchanges.j0 k l0 t102 t105 t106 t113 bt117.1 bt117.2.1 bt117.2.2 true)) else (laws_FnExchanges.j0 k l0 t102 t105 t106 t113 bt117.1 bt117.2.1 bt117.2.2 true)) else (laws_FnExchanges.j0 k l0 t102 t105 t106 t113 bt117.1 bt117.2.1 bt117.2.2 true)) else (laws_FnExchanges.j0 k l0 t102 t105 t106 t113 bt117.1 bt117.2.1 bt117.2.2 true))) else (laws_FnExchanges.j0 k l0 t102 t105 t106 t113 bt117.1 bt117.2.1 bt117.2.2 true)))) = some r := H
 have A8 := Aside0.mk A80
 clear A80
 replace H := Option.bind_eq_some_iff.mp H
 obtain ⟨⟨t117, t118, t119⟩, A90, H⟩ := H
 replace H : ((spec_BestExchange.f k t102).bind fun bt120 => (if t106 = t110 then ((laws_likeInts.f k t105 t109).bind fun t123 => (if t123 = true then (if t114 = t116 then (if t113 = t115 then (if t119 = bt120.2.2 then (if t117 = bt120.1 then (laws_FnExchanges.j0 k l0 t102 t105 t106 t113 t117 t118 t119 (t118 != bt120.2.1)) else (laws_FnExchanges.j0 k l0 t102 t105 t106 t113 t117 t118 t119 true)) else (laws_FnExchanges.j0 k l0 t102 t105 t106 t113 t117 t118 t119 true)) else (laws_FnExchanges.j0 k l0 t102 t105 t106 t113 t117 t118 t119 true)) else (laws_FnExchanges.j0 k l0 t102 t105 t106 t113 t117 t118 t119 true)) else (laws_FnExchanges.j0 k l0 t102 t105 t106 t113 t117 t118 t119 true))) else (laws_FnExchanges.j0 k l0 t102 t105 t106 t113 t117 t118 t119 true))) = some r := H
 have A9 := Aside0.mk A90
 clear A90
 replace H := Option.bind_eq_some_iff.mp H
 obtain ⟨⟨t120, t121, t122⟩, A100, H⟩ := H
 replace H : (if t106 = t110 then ((laws_likeInts.f k t105 t109).bind fun t123 => (if t123 = true then (if t114 = t116 then (if t113 = t115 then (if t119 = t122 then (if t117 = t120 then (laws_FnExchanges.j0 k l0 t102 t105 t106 t113 t117 t118 t119 (t118 != t121)) else (laws_FnExchanges.j0 k l0 t102 t105 t106 t113 t117 t118 t119 true)) else (laws_FnExchanges.j0 k l0 t102 t105 t106 t113 t117 t118 t119 true)) else (laws_FnExchanges.j0 k l0 t102 t105 t106 t113 t117 t118 t119 true)) else (laws_FnExchanges.j0 k l0 t102 t105 t106 t113 t117 t118 t119 true)) else (laws_FnExchanges.j0 k l0 t102 t105 t106 t113 t117 t118 t119 true))) else (laws_FnExchanges.j0 k l0 t102 t105 t106 t113 t117 t118 t119 true)) = some r := H
 have A10 := Aside0.mk A100
 clear A100
 have HC11 := Aside0.mk H
 clear H
 go_enter Try.func3, Try.ntmps3
 go_upto_region 10 with (first | (go_at_call 4; (with_reducible refine (laws_big.calls _ _ l0 false _ ?side1 ?side2 A2.out).mono ?_); (case side1 => exact zC HR0.out); (case side2 => exact HC0.out); rintro e w' ⟨rfl, ⟨nd, rfl⟩⟩; (try exact zd)) | (go_at_call 5; (with_reducible refine (spec_DrawSmoothTurns.calls k _ _ l0 t102 _ ?side1 ?side2 A4.out).mono ?_); (case side1 => exact zC HR0.out); (case side2 => exact HC0.out); rintro e w12 ⟨v103, rfl, ho0, hb⟩; have n_ := y2 (Kd.R_lower ho0 (below_size (zB))) (below_step (zB) hb); clear HB; obtain ⟨HO104, HB⟩ := n_; (try clear hb); (try clear hb2); (try clear hk); (try clear hi); (try clear ho0); obtain ⟨Ao13, co13, eo13⟩ := Kd.R_slice HO104.out; subst eo13) | (go_at_call 6; (with_reducible refine (impl_SmoothTurns.calls k _ _ t102 t105 t106 _ ?side1 ?side2 A5.out).mono ?_); (case side1 => exact zC (Kd.R_reads' HO104.out).2.2); (case side2 => exact (Kd.R_reads' HO104.out).2.1); rintro e w14 ⟨v107, rfl, ho0, hb⟩; have n_ := y3 (Kd.R_elder' (zR HO104.out) (Kd.R_base ho0) hb) (Kd.R_lower (Kd.R_new' ho0 (Kd.R_lt (zR HO104.out))) (below_size (zB))) (below_step (zB) hb); clear HO104 HB; obtain ⟨HO104, HO108, HB⟩ := n_; (try clear hb); (try clear hb2); (try clear hk); (try clear hi); (try clear ho0)) | (go_at_call 7; (with_reducible refine (spec_SmoothTurns.calls k _ _ t102 t109 t110 _ ?side1 ?side2 A6.out).mono ?_); (case side1 => exact zC (Kd.R_reads' HO104.out).2.2); (case side2 => exact (Kd.R_reads' HO104.out).2.1); rintro e w15 ⟨v111, rfl, ho0, hb⟩; have n_ := y4 (Kd.R_elder' (zR HO104.out) (Kd.R_base ho0) hb) (Kd.R_elder' (zR HO108.out) (Kd.R_base ho0) hb) (Kd.R_lower (Kd.R_new' (Kd.R_new' ho0 (Kd.R_lt (zR HO104.out))) (Kd.R_lt (zR HO108.out))) (below_size (zB))) (below_step (zB) hb); clear HO104 HO108 HB; obtain ⟨HO104, HO108, HO112, HB⟩ := n_; (try clear hb); (try clear hb2); (try clear hk); (try clear hi); (try clear ho0)) | (go_at_call 8; (with_reducible refine (impl_SquaresOf.calls k _ _ t102 t113 t114 _ ?side1 ?side2 A7.out).mono ?_); (case side1 => exact zC (Kd.R_reads' HO104.out).2.2); (case side2 => exact (Kd.R_reads' HO104.out).2.1); rintro e w16 ⟨rfl, hb⟩; have n_ := y4 (Kd.R_below (zR HO104.out) hb) (Kd.R_below (zR HO108.out) hb) (Kd.R_below (zR HO112.out) hb) (below_step (zB) hb); clear HO104 HO108 HO112 HB; obtain ⟨HO104, HO108, HO112, HB⟩ := n_; (try clear hb); (try clear hb2); (try clear hk); (try clear hi)) | (go_at_call 9; (with_reducible refine (spec_SquaresOf.calls k _ _ t102 t115 t116 _ ?side1 ?side2 A8.out).mono ?_); (case side1 => exact zC (Kd.R_reads' HO104.out).2.2); (case side2 => exact (Kd.R_reads' HO104.out).2.1); rintro e w17 ⟨rfl, hb⟩; have n_ := y4 (Kd.R_below (zR HO104.out) hb) (Kd.R_below (zR HO108.out) hb) (Kd.R_below (zR HO112.out) hb) (below_step (zB) hb); clear HO104 HO108 HO112 HB; obtain ⟨HO104, HO108, HO112, HB⟩ := n_; (try clear hb); (try clear hb2); (try clear hk); (try clear hi)) | (go_at_call 10; (with_reducible refine (impl_BestExchange.calls k _ _ t102 t117 t118 t119 _ ?side1 ?side2 A9.out).mono ?_); (case side1 => exact zC (Kd.R_reads' HO104.out).2.2); (case side2 => exact (Kd.R_reads' HO104.out).2.1); rintro e w18 ⟨rfl, hb⟩; have n_ := y4 (Kd.R_below (zR HO104.out) hb) (Kd.R_below (zR HO108.out) hb) (Kd.R_below (zR HO112.out) hb) (below_step (zB) hb); clear HO104 HO108 HO112 HB; obtain ⟨HO104, HO108, HO112, HB⟩ := n_; (try clear hb); (try clear hb2); (try clear hk); (try clear hi)) | (go_at_call 11; (with_reducible refine (spec_BestExchange.calls k _ _ t102 t120 t121 t122 _ ?side1 ?side2 A10.out).mono ?_); (case side1 => exact zC (Kd.R_reads' HO104.out).2.2); (case side2 => exact (Kd.R_reads' HO104.out).2.1); rintro e w19 ⟨rfl, hb⟩; have n_ := y4 (Kd.R_below (zR HO104.out) hb) (Kd.R_below (zR HO108.out) hb) (Kd.R_below (zR HO112.out) hb) (below_step (zB) hb); clear HO104 HO108 HO112 HB; obtain ⟨HO104, HO108, HO112, HB⟩ := n_; (try clear hb); (try clear hb2); (try clear hk); (try clear hi)))
 repeat (go_quiet (fail); go_upto_region 10 with (fail))
 (try simp only [Act.put, List.setIfInBounds_toArray, List.set_cons_zero, List.set_cons_succ])
 go_cut [122] (fun v122 wc => ∃ (kq : Nat) (x122_10 : Bool), v122 = .bool x122_10 ∧ Aside0 (laws_FnExchanges.j0 kq l0 t102 t105 t106 t113 t117 t118 t119 x122_10 = some r) ∧ Aside0 (kq ≤ k) ∧ Aside0 (Kd.R (Kd.int .i64) 2 wc w.heap.size (fun k_ => some k_ ≠ (v107 : Value).ownBlock) (.slice Ao13 t102.length co13) t102) ∧ Aside0 (Kd.R (Kd.int .i64) 2 wc w.heap.size (fun k_ => some k_ ≠ ((.slice Ao13 t102.length co13) : Value).ownBlock) v107 t105) ∧ Aside0 (Below w.heap.size w wc))
 case first =>
  as_aux_lemma =>
   have H := HC11.out
   clear HC11
   by_cases c20 : t106 = t110
   ·
    rw [if_pos c20] at H
    have c20b0 : (t106 == t110) = true := beq_iff_eq.mpr c20
    have c20b1 : (t106 != t110) = false := bne_eq_false_iff_eq.mpr c20
    clear c20
    (first | rw [c20b0] | (simp only [i64_w, i32_w]; rw [c20b0]) | skip)
    replace H := Option.bind_eq_some_iff.mp H
    obtain ⟨t123, A210, H⟩ := H
    replace H : (if t123 = true then (if t114 = t116 then (if t113 = t115 then (if t119 = t122 then (if t117 = t120 then (laws_FnExchanges.j0 k l0 t102 t105 t106 t113 t117 t118 t119 (t118 != t121)) else (laws_FnExchanges.j0 k l0 t102 t105 t106 t113 t117 t118 t119 true)) else (laws_FnExchanges.j0 k l0 t102 t105 t106 t113 t117 t118 t119 true)) else (laws_FnExchanges.j0 k l0 t102 t105 t106 t113 t117 t118 t119 true)) else (laws_FnExchanges.j0 k l0 t102 t105 t106 t113 t117 t118 t119 true)) else (laws_FnExchanges.j0 k l0 t102 t105 t106 t113 t117 t118 t119 true)) = some r := H
    have A21 := Aside0.mk A210
    clear A210
    by_cases c22 : t123 = true
    ·
     subst c22
     have H1 : (if t114 = t116 then (if t113 = t115 then (if t119 = t122 then (if t117 = t120 then (laws_FnExchanges.j0 k l0 t102 t105 t106 t113 t117 t118 t119 (t118 != t121)) else (laws_FnExchanges.j0 k l0 t102 t105 t106 t113 t117 t118 t119 true)) else (laws_FnExchanges.j0 k l0 t102 t105 t106 t113 t117 t118 t119 true)) else (laws_FnExchanges.j0 k l0 t102 t105 t106 t113 t117 t118 t119 true)) else (laws_FnExchanges.j0 k l0 t102 t105 t106 t113 t117 t118 t119 true)) = some r := by rw [if_pos rfl] at H; exact H
     clear H
     have H := H1
     clear H1
     by_cases c23 : t114 = t116
     ·
      rw [if_pos c23] at H
      have c23b0 : (t114 == t116) = true := beq_iff_eq.mpr c23
      have c23b1 : (t114 != t116) = false := bne_eq_false_iff_eq.mpr c23
      clear c23
      by_cases c24 : t113 = t115
      ·
       rw [if_pos c24] at H
       have c24b0 : (t113 == t115) = true := beq_iff_eq.mpr c24
       have c24b1 : (t113 != t115) = false := bne_eq_false_iff_eq.mpr c24
       clear c24
       by_cases c25 : t119 = t122
       ·
        rw [if_pos c25] at H
        have c25b0 : (t119 == t122) = true := beq_iff_eq.mpr c25
        have c25b1 : (t119 != t122) = false := bne_eq_false_iff_eq.mpr c25
        clear c25
        by_cases c26 : t117 = t120
        ·
         rw [if_pos c26] at H
         have c26b0 : (t117 == t120) = true := beq_iff_eq.mpr c26
         have c26b1 : (t117 != t120) = false := bne_eq_false_iff_eq.mpr c26
         clear c26
         have H' := Aside0.mk H
         clear H
         obtain ⟨Ao27, co27, eo27⟩ := Kd.R_slice HO108.out
         subst eo27
         obtain ⟨Ao28, co28, eo28⟩ := Kd.R_slice HO112.out
         subst eo28
         go_wp2_with (first | (go_at_call 12; (with_reducible refine (laws_likeInts.calls k _ _ t105 _ _ t109 true _ ?side1 ?side2 ?side3 ?side4 A21.out).mono ?_); (case side1 => exact zC (Kd.R_reads' HO108.out).2.2); (case side2 => exact (Kd.R_reads' HO108.out).2.1); (case side3 => exact zC (Kd.R_reads' HO112.out).2.2); (case side4 => exact (Kd.R_reads' HO112.out).2.1); rintro e w' ⟨rfl, ⟨nd, rfl⟩⟩; (try exact zd)))
         repeat (go_quiet (first | (go_at_call 12; (with_reducible refine (laws_likeInts.calls k _ _ t105 _ _ t109 true _ ?side1 ?side2 ?side3 ?side4 A21.out).mono ?_); (case side1 => exact zC (Kd.R_reads' HO108.out).2.2); (case side2 => exact (Kd.R_reads' HO108.out).2.1); (case side3 => exact zC (Kd.R_reads' HO112.out).2.2); (case side4 => exact (Kd.R_reads' HO112.out).2.1); rintro e w' ⟨rfl, ⟨nd, rfl⟩⟩; (try exact zd))); try go_wp2_with (first | (go_at_call 12; (with_reducible refine (laws_likeInts.calls k _ _ t105 _ _ t109 true _ ?side1 ?side2 ?side3 ?side4 A21.out).mono ?_); (case side1 => exact zC (Kd.R_reads' HO108.out).2.2); (case side2 => exact (Kd.R_reads' HO108.out).2.1); (case side3 => exact zC (Kd.R_reads' HO112.out).2.2); (case side4 => exact (Kd.R_reads' HO112.out).2.1); rintro e w' ⟨rfl, ⟨nd, rfl⟩⟩; (try exact zd))))
         go_meet
         case rel => exact ⟨_, ((t118 != t121)), zF, H', ⟨by first | omega | exact Nat.le_refl _⟩, ⟨by refine zR ?_; exact Kd.R_mono HO104.out (fun _ hk => hk.1.2)⟩, ⟨by refine zR ?_; exact Kd.R_mono HO108.out (fun _ hk => hk.1.2)⟩, ⟨zB⟩⟩
        rw [if_neg c26] at H
        have c26b0 : (t117 == t120) = false := beq_eq_false_iff_ne.mpr c26
        have c26b1 : (t117 != t120) = true := bne_iff_ne.mpr c26
        have H' := Aside0.mk H
        clear H
        obtain ⟨Ao29, co29, eo29⟩ := Kd.R_slice HO108.out
        subst eo29
        obtain ⟨Ao30, co30, eo30⟩ := Kd.R_slice HO112.out
        subst eo30
        go_wp2_with (first | (go_at_call 12; (with_reducible refine (laws_likeInts.calls k _ _ t105 _ _ t109 true _ ?side1 ?side2 ?side3 ?side4 A21.out).mono ?_); (case side1 => exact zC (Kd.R_reads' HO108.out).2.2); (case side2 => exact (Kd.R_reads' HO108.out).2.1); (case side3 => exact zC (Kd.R_reads' HO112.out).2.2); (case side4 => exact (Kd.R_reads' HO112.out).2.1); rintro e w' ⟨rfl, ⟨nd, rfl⟩⟩; (try exact zd)))
        repeat (go_quiet (first | (go_at_call 12; (with_reducible refine (laws_likeInts.calls k _ _ t105 _ _ t109 true _ ?side1 ?side2 ?side3 ?side4 A21.out).mono ?_); (case side1 => exact zC (Kd.R_reads' HO108.out).2.2); (case side2 => exact (Kd.R_reads' HO108.out).2.1); (case side3 => exact zC (Kd.R_reads' HO112.out).2.2); (case side4 => exact (Kd.R_reads' HO112.out).2.1); rintro e w' ⟨rfl, ⟨nd, rfl⟩⟩; (try exact zd))); try go_wp2_with (first | (go_at_call 12; (with_reducible refine (laws_likeInts.calls k _ _ t105 _ _ t109 true _ ?side1 ?side2 ?side3 ?side4 A21.out).mono ?_); (case side1 => exact zC (Kd.R_reads' HO108.out).2.2); (case side2 => exact (Kd.R_reads' HO108.out).2.1); (case side3 => exact zC (Kd.R_reads' HO112.out).2.2); (case side4 => exact (Kd.R_reads' HO112.out).2.1); rintro e w' ⟨rfl, ⟨nd, rfl⟩⟩; (try exact zd))))
        go_meet
        case rel => exact ⟨_, (true), zF, H', ⟨by first | omega | exact Nat.le_refl _⟩, ⟨by refine zR ?_; exact Kd.R_mono HO104.out (fun _ hk => hk.1.2)⟩, ⟨by refine zR ?_; exact Kd.R_mono HO108.out (fun _ hk => hk.1.2)⟩, ⟨zB⟩⟩
       rw [if_neg c25] at H
       have c25b0 : (t119 == t122) = false := beq_eq_false_iff_ne.mpr c25
       have c25b1 : (t119 != t122) = true := bne_iff_ne.mpr c25
       have H' := Aside0.mk H
       clear H
       obtain ⟨Ao31, co31, eo31⟩ := Kd.R_slice HO108.out
       subst eo31
       obtain ⟨Ao32, co32, eo32⟩ := Kd.R_slice HO112.out
       subst eo32
       go_wp2_with (first | (go_at_call 12; (with_reducible refine (laws_likeInts.calls k _ _ t105 _ _ t109 true _ ?side1 ?side2 ?side3 ?side4 A21.out).mono ?_); (case side1 => exact zC (Kd.R_reads' HO108.out).2.2); (case side2 => exact (Kd.R_reads' HO108.out).2.1); (case side3 => exact zC (Kd.R_reads' HO112.out).2.2); (case side4 => exact (Kd.R_reads' HO112.out).2.1); rintro e w' ⟨rfl, ⟨nd, rfl⟩⟩; (try exact zd)))
       repeat (go_quiet (first | (go_at_call 12; (with_reducible refine (laws_likeInts.calls k _ _ t105 _ _ t109 true _ ?side1 ?side2 ?side3 ?side4 A21.out).mono ?_); (case side1 => exact zC (Kd.R_reads' HO108.out).2.2); (case side2 => exact (Kd.R_reads' HO108.out).2.1); (case side3 => exact zC (Kd.R_reads' HO112.out).2.2); (case side4 => exact (Kd.R_reads' HO112.out).2.1); rintro e w' ⟨rfl, ⟨nd, rfl⟩⟩; (try exact zd))); try go_wp2_with (first | (go_at_call 12; (with_reducible refine (laws_likeInts.calls k _ _ t105 _ _ t109 true _ ?side1 ?side2 ?side3 ?side4 A21.out).mono ?_); (case side1 => exact zC (Kd.R_reads' HO108.out).2.2); (case side2 => exact (Kd.R_reads' HO108.out).2.1); (case side3 => exact zC (Kd.R_reads' HO112.out).2.2); (case side4 => exact (Kd.R_reads' HO112.out).2.1); rintro e w' ⟨rfl, ⟨nd, rfl⟩⟩; (try exact zd))))
       go_meet
       case rel => exact ⟨_, (true), zF, H', ⟨by first | omega | exact Nat.le_refl _⟩, ⟨by refine zR ?_; exact Kd.R_mono HO104.out (fun _ hk => hk.1.2)⟩, ⟨by refine zR ?_; exact Kd.R_mono HO108.out (fun _ hk => hk.1.2)⟩, ⟨zB⟩⟩
      rw [if_neg c24] at H
      have c24b0 : (t113 == t115) = false := beq_eq_false_iff_ne.mpr c24
      have c24b1 : (t113 != t115) = true := bne_iff_ne.mpr c24
      have H' := Aside0.mk H
      clear H
      obtain ⟨Ao33, co33, eo33⟩ := Kd.R_slice HO108.out
      subst eo33
      obtain ⟨Ao34, co34, eo34⟩ := Kd.R_slice HO112.out
      subst eo34
      go_wp2_with (first | (go_at_call 12; (with_reducible refine (laws_likeInts.calls k _ _ t105 _ _ t109 true _ ?side1 ?side2 ?side3 ?side4 A21.out).mono ?_); (case side1 => exact zC (Kd.R_reads' HO108.out).2.2); (case side2 => exact (Kd.R_reads' HO108.out).2.1); (case side3 => exact zC (Kd.R_reads' HO112.out).2.2); (case side4 => exact (Kd.R_reads' HO112.out).2.1); rintro e w' ⟨rfl, ⟨nd, rfl⟩⟩; (try exact zd)))
      repeat (go_quiet (first | (go_at_call 12; (with_reducible refine (laws_likeInts.calls k _ _ t105 _ _ t109 true _ ?side1 ?side2 ?side3 ?side4 A21.out).mono ?_); (case side1 => exact zC (Kd.R_reads' HO108.out).2.2); (case side2 => exact (Kd.R_reads' HO108.out).2.1); (case side3 => exact zC (Kd.R_reads' HO112.out).2.2); (case side4 => exact (Kd.R_reads' HO112.out).2.1); rintro e w' ⟨rfl, ⟨nd, rfl⟩⟩; (try exact zd))); try go_wp2_with (first | (go_at_call 12; (with_reducible refine (laws_likeInts.calls k _ _ t105 _ _ t109 true _ ?side1 ?side2 ?side3 ?side4 A21.out).mono ?_); (case side1 => exact zC (Kd.R_reads' HO108.out).2.2); (case side2 => exact (Kd.R_reads' HO108.out).2.1); (case side3 => exact zC (Kd.R_reads' HO112.out).2.2); (case side4 => exact (Kd.R_reads' HO112.out).2.1); rintro e w' ⟨rfl, ⟨nd, rfl⟩⟩; (try exact zd))))
      go_meet
      case rel => exact ⟨_, (true), zF, H', ⟨by first | omega | exact Nat.le_refl _⟩, ⟨by refine zR ?_; exact Kd.R_mono HO104.out (fun _ hk => hk.1.2)⟩, ⟨by refine zR ?_; exact Kd.R_mono HO108.out (fun _ hk => hk.1.2)⟩, ⟨zB⟩⟩
     rw [if_neg c23] at H
     have c23b0 : (t114 == t116) = false := beq_eq_false_iff_ne.mpr c23
     have c23b1 : (t114 != t116) = true := bne_iff_ne.mpr c23
     have H' := Aside0.mk H
     clear H
     obtain ⟨Ao35, co35, eo35⟩ := Kd.R_slice HO108.out
     subst eo35
     obtain ⟨Ao36, co36, eo36⟩ := Kd.R_slice HO112.out
     subst eo36
     go_wp2_with (first | (go_at_call 12; (with_reducible refine (laws_likeInts.calls k _ _ t105 _ _ t109 true _ ?side1 ?side2 ?side3 ?side4 A21.out).mono ?_); (case side1 => exact zC (Kd.R_reads' HO108.out).2.2); (case side2 => exact (Kd.R_reads' HO108.out).2.1); (case side3 => exact zC (Kd.R_reads' HO112.out).2.2); (case side4 => exact (Kd.R_reads' HO112.out).2.1); rintro e w' ⟨rfl, ⟨nd, rfl⟩⟩; (try exact zd)))
     repeat (go_quiet (first | (go_at_call 12; (with_reducible refine (laws_likeInts.calls k _ _ t105 _ _ t109 true _ ?side1 ?side2 ?side3 ?side4 A21.out).mono ?_); (case side1 => exact zC (Kd.R_reads' HO108.out).2.2); (case side2 => exact (Kd.R_reads' HO108.out).2.1); (case side3 => exact zC (Kd.R_reads' HO112.out).2.2); (case side4 => exact (Kd.R_reads' HO112.out).2.1); rintro e w' ⟨rfl, ⟨nd, rfl⟩⟩; (try exact zd))); try go_wp2_with (first | (go_at_call 12; (with_reducible refine (laws_likeInts.calls k _ _ t105 _ _ t109 true _ ?side1 ?side2 ?side3 ?side4 A21.out).mono ?_); (case side1 => exact zC (Kd.R_reads' HO108.out).2.2); (case side2 => exact (Kd.R_reads' HO108.out).2.1); (case side3 => exact zC (Kd.R_reads' HO112.out).2.2); (case side4 => exact (Kd.R_reads' HO112.out).2.1); rintro e w' ⟨rfl, ⟨nd, rfl⟩⟩; (try exact zd))))
     go_meet
     case rel => exact ⟨_, (true), zF, H', ⟨by first | omega | exact Nat.le_refl _⟩, ⟨by refine zR ?_; exact Kd.R_mono HO104.out (fun _ hk => hk.1.2)⟩, ⟨by refine zR ?_; exact Kd.R_mono HO108.out (fun _ hk => hk.1.2)⟩, ⟨zB⟩⟩
    replace c22 := Bool.eq_false_iff.mpr c22
    subst c22
    have H1 : (laws_FnExchanges.j0 k l0 t102 t105 t106 t113 t117 t118 t119 true) = some r := by rw [if_neg (show ¬ (false = true) by decide)] at H; exact H
    clear H
    have H := H1
    clear H1
    have H' := Aside0.mk H
    clear H
    obtain ⟨Ao37, co37, eo37⟩ := Kd.R_slice HO108.out
    subst eo37
    obtain ⟨Ao38, co38, eo38⟩ := Kd.R_slice HO112.out
    subst eo38
    go_wp2_with (first | (go_at_call 12; (with_reducible refine (laws_likeInts.calls k _ _ t105 _ _ t109 false _ ?side1 ?side2 ?side3 ?side4 A21.out).mono ?_); (case side1 => exact zC (Kd.R_reads' HO108.out).2.2); (case side2 => exact (Kd.R_reads' HO108.out).2.1); (case side3 => exact zC (Kd.R_reads' HO112.out).2.2); (case side4 => exact (Kd.R_reads' HO112.out).2.1); rintro e w' ⟨rfl, ⟨nd, rfl⟩⟩; (try exact zd)))
    repeat (go_quiet (first | (go_at_call 12; (with_reducible refine (laws_likeInts.calls k _ _ t105 _ _ t109 false _ ?side1 ?side2 ?side3 ?side4 A21.out).mono ?_); (case side1 => exact zC (Kd.R_reads' HO108.out).2.2); (case side2 => exact (Kd.R_reads' HO108.out).2.1); (case side3 => exact zC (Kd.R_reads' HO112.out).2.2); (case side4 => exact (Kd.R_reads' HO112.out).2.1); rintro e w' ⟨rfl, ⟨nd, rfl⟩⟩; (try exact zd))); try go_wp2_with (first | (go_at_call 12; (with_reducible refine (laws_likeInts.calls k _ _ t105 _ _ t109 false _ ?side1 ?side2 ?side3 ?side4 A21.out).mono ?_); (case side1 => exact zC (Kd.R_reads' HO108.out).2.2); (case side2 => exact (Kd.R_reads' HO108.out).2.1); (case side3 => exact zC (Kd.R_reads' HO112.out).2.2); (case side4 => exact (Kd.R_reads' HO112.out).2.1); rintro e w' ⟨rfl, ⟨nd, rfl⟩⟩; (try exact zd))))
    go_meet
    case rel => exact ⟨_, (true), zF, H', ⟨by first | omega | exact Nat.le_refl _⟩, ⟨by refine zR ?_; exact Kd.R_mono HO104.out (fun _ hk => hk.1.2)⟩, ⟨by refine zR ?_; exact Kd.R_mono HO108.out (fun _ hk => hk.1.2)⟩, ⟨zB⟩⟩
   rw [if_neg c20] at H
   have c20b0 : (t106 == t110) = false := beq_eq_false_iff_ne.mpr c20
   have c20b1 : (t106 != t110) = true := bne_iff_ne.mpr c20
   (first | rw [c20b0] | (simp only [i64_w, i32_w]; rw [c20b0]) | skip)
   have H' := Aside0.mk H
   clear H
   go_wp2
   repeat (go_quiet (fail); try go_wp2)
   go_meet
   case rel => exact ⟨_, (true), zF, H', ⟨by first | omega | exact Nat.le_refl _⟩, ⟨by refine zR ?_; exact Kd.R_mono HO104.out (fun _ hk => hk.1.2)⟩, ⟨by refine zR ?_; exact Kd.R_mono HO108.out (fun _ hk => hk.1.2)⟩, ⟨zB⟩⟩
 case rest =>
  as_aux_lemma =>
   clear HC11
   try clear c3
   obtain ⟨kq, x122_10, rfl, HA, HJ10, HO_3, HO_4, HB⟩ := hcut
   cases kq with
   | zero => exact absurd HA.out (by simp [laws_FnExchanges.j0])
   | succ kj10 =>
     have H := HA.out
     clear HA
     simp only [laws_FnExchanges.j0] at H
     by_cases c39 : x122_10 = true
     · subst c39
       have H1 : (some false) = some r := by rw [if_pos rfl] at H; exact H
       clear H
       have H := H1
       clear H1
       obtain rfl := Option.some.inj H
       go_wp2
       repeat (go_quiet (fail); try go_wp2)
       go_ret
       exact ⟨zE, zB⟩
     · replace c39 := Bool.eq_false_iff.mpr c39
       subst c39
       have H1 : (if t106 = 0 then ((impl_SquaresOf.f kj10 t105).bind fun bt124 => ((impl_BestExchange.f kj10 t105).bind fun bt126 => (if bt124.2 = 0 then (if bt126.2.2 = 4 then (if bt124.1 > t113 then (laws_FnExchanges.j1 kj10 l0 t102 t113 t117 t118 t119 bt124.1 true) else (laws_FnExchanges.j1 kj10 l0 t102 t113 t117 t118 t119 bt124.1 ((decide (bt124.1 < t113)) != (t119 == 0)))) else (laws_FnExchanges.j1 kj10 l0 t102 t113 t117 t118 t119 bt124.1 true)) else (laws_FnExchanges.j1 kj10 l0 t102 t113 t117 t118 t119 bt124.1 true)))) else (laws_FnExchanges.j2 kj10 l0)) = some r := by rw [if_neg (show ¬ (false = true) by decide)] at H; exact H
       clear H
       have H := H1
       clear H1
       have HC40 := Aside0.mk H
       clear H
       go_upto_if 124 with (fail)
       repeat (go_quiet (fail); go_upto_if 124 with (fail))
       go_cut [] (fun wc => ∃ (kq : Nat), Aside0 (laws_FnExchanges.j2 kq l0 = some r) ∧ Aside0 (kq ≤ kj10) ∧ Aside0 (Below w.heap.size w wc))
       case first =>
         as_aux_lemma =>
          have H := HC40.out
          clear HC40
          by_cases c41 : t106 = 0
          · rw [if_pos c41] at H
            have c41b0 : (t106 == 0) = true := beq_iff_eq.mpr c41
            have c41b1 : (t106 != 0) = false := bne_eq_false_iff_eq.mpr c41
            clear c41
            (first | rw [c41b0] | (simp only [i64_w, i32_w]; rw [c41b0]) | skip)
            replace H := Option.bind_eq_some_iff.mp H
            obtain ⟨⟨t124, t125⟩, A420, H⟩ := H
            replace H : ((impl_BestExchange.f kj10 t105).bind fun bt126 => (if t125 = 0 then (if bt126.2.2 = 4 then (if t124 > t113 then (laws_FnExchanges.j1 kj10 l0 t102 t113 t117 t118 t119 t124 true) else (laws_FnExchanges.j1 kj10 l0 t102 t113 t117 t118 t119 t124 ((decide (t124 < t113)) != (t119 == 0)))) else (laws_FnExchanges.j1 kj10 l0 t102 t113 t117 t118 t119 t124 true)) else (laws_FnExchanges.j1 kj10 l0 t102 t113 t117 t118 t119 t124 true))) = some r := H
            have A42 := Aside0.mk A420
            clear A420
            replace H := Option.bind_eq_some_iff.mp H
            obtain ⟨⟨t126, t127, t128⟩, A430, H⟩ := H
            replace H : (if t125 = 0 then (if t128 = 4 then (if t124 > t113 then (laws_FnExchanges.j1 kj10 l0 t102 t113 t117 t118 t119 t124 true) else (laws_FnExchanges.j1 kj10 l0 t102 t113 t117 t118 t119 t124 ((decide (t124 < t113)) != (t119 == 0)))) else (laws_FnExchanges.j1 kj10 l0 t102 t113 t117 t118 t119 t124 true)) else (laws_FnExchanges.j1 kj10 l0 t102 t113 t117 t118 t119 t124 true)) = some r := H
            have A43 := Aside0.mk A430
            clear A430
            have HC44 := Aside0.mk H
            clear H
            obtain ⟨Ao45, co45, eo45⟩ := Kd.R_slice HO_4.out
            subst eo45
            go_upto_region 15 with (first | (go_at_call 8; (with_reducible refine (impl_SquaresOf.calls kj10 _ _ t105 t124 t125 _ ?side1 ?side2 A42.out).mono ?_); (case side1 => exact zC (Kd.R_reads' HO_4.out).2.2); (case side2 => exact (Kd.R_reads' HO_4.out).2.1); rintro e w46 ⟨rfl, hb⟩; have n_ := y3 (Kd.R_below (zR HO_3.out) hb) (Kd.R_below (zR HO_4.out) hb) (below_step (zB) hb); clear HO_3 HO_4 HB; obtain ⟨HO_3, HO_4, HB⟩ := n_; (try clear hb); (try clear hb2); (try clear hk); (try clear hi)) | (go_at_call 10; (with_reducible refine (impl_BestExchange.calls kj10 _ _ t105 t126 t127 t128 _ ?side1 ?side2 A43.out).mono ?_); (case side1 => exact zC (Kd.R_reads' HO_4.out).2.2); (case side2 => exact (Kd.R_reads' HO_4.out).2.1); rintro e w47 ⟨rfl, hb⟩; have n_ := y3 (Kd.R_below (zR HO_3.out) hb) (Kd.R_below (zR HO_4.out) hb) (below_step (zB) hb); clear HO_3 HO_4 HB; obtain ⟨HO_3, HO_4, HB⟩ := n_; (try clear hb); (try clear hb2); (try clear hk); (try clear hi)))
            repeat (go_quiet (fail); go_upto_region 15 with (fail))
            (try simp only [Act.put, List.setIfInBounds_toArray, List.set_cons_zero, List.set_cons_succ])
            go_cut [154] (fun v154 wc => ∃ (kq : Nat) (x154_43 : Bool), v154 = .bool x154_43 ∧ Aside0 (laws_FnExchanges.j1 kq l0 t102 t113 t117 t118 t119 t124 x154_43 = some r) ∧ Aside0 (kq ≤ kj10) ∧ Aside0 (Kd.R (Kd.int .i64) 2 wc w.heap.size (fun _ => True) (.slice Ao13 t102.length co13) t102) ∧ Aside0 (Below w.heap.size w wc))
            case first =>
              as_aux_lemma =>
               have H := HC44.out
               clear HC44
               by_cases c48 : t125 = 0
               · rw [if_pos c48] at H
                 have c48b0 : (t125 == 0) = true := beq_iff_eq.mpr c48
                 have c48b1 : (t125 != 0) = false := bne_eq_false_iff_eq.mpr c48
                 clear c48
                 (first | rw [c48b0] | (simp only [i64_w, i32_w]; rw [c48b0]) | skip)
                 by_cases c49 : t128 = 4
                 · rw [if_pos c49] at H
                   have c49b0 : (t128 == 4) = true := beq_iff_eq.mpr c49
                   have c49b1 : (t128 != 4) = false := bne_eq_false_iff_eq.mpr c49
                   clear c49
                   by_cases c50 : t124 > t113
                   · rw [if_pos c50] at H
                     have c50b0 : decide (t113 < t124) = true := decide_eq_true c50
                     clear c50
                     have H' := Aside0.mk H
                     clear H
                     go_wp2
                     repeat (go_quiet (fail); try go_wp2)
                     go_meet
                     case rel => exact ⟨_, (true), zF, H', ⟨by have := HJ10.out; first | omega | exact Nat.le_refl _⟩, ⟨by refine zR ?_; exact Kd.R_mono HO_3.out (fun _ hk => trivial)⟩, ⟨zB⟩⟩
                   · rw [if_neg c50] at H
                     have c50b0 : decide (t113 < t124) = false := decide_eq_false c50
                     clear c50
                     have H' := Aside0.mk H
                     clear H
                     go_wp2
                     repeat (go_quiet (fail); try go_wp2)
                     go_meet
                     case rel => exact ⟨_, (((decide (t124 < t113)) != (t119 == 0))), zF, H', ⟨by have := HJ10.out; first | omega | exact Nat.le_refl _⟩, ⟨by refine zR ?_; exact Kd.R_mono HO_3.out (fun _ hk => trivial)⟩, ⟨zB⟩⟩
                 · rw [if_neg c49] at H
                   have c49b0 : (t128 == 4) = false := beq_eq_false_iff_ne.mpr c49
                   have c49b1 : (t128 != 4) = true := bne_iff_ne.mpr c49
                   have H' := Aside0.mk H
                   clear H
                   go_wp2
                   repeat (go_quiet (fail); try go_wp2)
                   go_meet
                   case rel => exact ⟨_, (true), zF, H', ⟨by have := HJ10.out; first | omega | exact Nat.le_refl _⟩, ⟨by refine zR ?_; exact Kd.R_mono HO_3.out (fun _ hk => trivial)⟩, ⟨zB⟩⟩
               · rw [if_neg c48] at H
                 have c48b0 : (t125 == 0) = false := beq_eq_false_iff_ne.mpr c48
                 have c48b1 : (t125 != 0) = true := bne_iff_ne.mpr c48
                 (first | rw [c48b0] | (simp only [i64_w, i32_w]; rw [c48b0]) | skip)
                 have H' := Aside0.mk H
                 clear H
                 go_wp2
                 repeat (go_quiet (fail); try go_wp2)
                 go_meet
                 case rel => exact ⟨_, (true), zF, H', ⟨by have := HJ10.out; first | omega | exact Nat.le_refl _⟩, ⟨by refine zR ?_; exact Kd.R_mono HO_3.out (fun _ hk => trivial)⟩, ⟨zB⟩⟩
            case rest =>
              as_aux_lemma =>
               clear HC44
               try clear c3
               try clear c39
               try clear c41
               try clear c41b0
               try clear c41b1
               obtain ⟨kq, x154_43, rfl, HA, HJ43, HO_3, HB⟩ := hcut
               cases kq with
               | zero => exact absurd HA.out (by simp [laws_FnExchanges.j1])
               | succ kj43 =>
                 have H := HA.out
                 clear HA
                 simp only [laws_FnExchanges.j1] at H
                 by_cases c51 : x154_43 = true
                 · subst c51
                   have H1 : (some false) = some r := by rw [if_pos rfl] at H; exact H
                   clear H
                   have H := H1
                   clear H1
                   obtain rfl := Option.some.inj H
                   go_wp2
                   repeat (go_quiet (fail); try go_wp2)
                   go_ret
                   exact ⟨zE, zB⟩
                 · replace c51 := Bool.eq_false_iff.mpr c51
                   subst c51
                   have H1 : (if t119 = 0 then ((impl_ExchangeSlots.f t102 t117 t118).bind fun bt129 => ((impl_SquaresOf.f kj43 bt129.1).bind fun bt133 => (if bt129.2 = 0 then (if bt133.2 = 0 then (if bt133.1 ≥ t113 then (some false) else (if bt133.1 < t124 then (some false) else (laws_FnExchanges.j2 kj43 l0))) else (some false)) else (some false)))) else (laws_FnExchanges.j2 kj43 l0)) = some r := by rw [if_neg (show ¬ (false = true) by decide)] at H; exact H
                   clear H
                   have H := H1
                   clear H1
                   by_cases c52 : t119 = 0
                   · rw [if_pos c52] at H
                     have c52b0 : (t119 == 0) = true := beq_iff_eq.mpr c52
                     have c52b1 : (t119 != 0) = false := bne_eq_false_iff_eq.mpr c52
                     clear c52
                     replace H := Option.bind_eq_some_iff.mp H
                     obtain ⟨⟨t129, t130⟩, A530, H⟩ := H
                     replace H : ((impl_SquaresOf.f kj43 t129).bind fun bt133 => (if t130 = 0 then (if bt133.2 = 0 then (if bt133.1 ≥ t113 then (some false) else (if bt133.1 < t124 then (some false) else (laws_FnExchanges.j2 kj43 l0))) else (some false)) else (some false))) = some r := H
                     have A53 := Aside0.mk A530
                     clear A530
                     replace H := Option.bind_eq_some_iff.mp H
                     obtain ⟨⟨t133, t134⟩, A540, H⟩ := H
                     replace H : (if t130 = 0 then (if t134 = 0 then (if t133 ≥ t113 then (some false) else (if t133 < t124 then (some false) else (laws_FnExchanges.j2 kj43 l0))) else (some false)) else (some false)) = some r := H
                     have A54 := Aside0.mk A540
                     clear A540
                     by_cases c55 : t130 = 0
                     · rw [if_pos c55] at H
                       have c55b0 : (t130 == 0) = true := beq_iff_eq.mpr c55
                       have c55b1 : (t130 != 0) = false := bne_eq_false_iff_eq.mpr c55
                       clear c55
                       by_cases c56 : t134 = 0
                       · rw [if_pos c56] at H
                         have c56b0 : (t134 == 0) = true := beq_iff_eq.mpr c56
                         have c56b1 : (t134 != 0) = false := bne_eq_false_iff_eq.mpr c56
                         clear c56
                         by_cases c57 : t133 ≥ t113
                         · rw [if_pos c57] at H
                           have c57b0 : decide (t113 ≤ t133) = true := decide_eq_true c57
                           clear c57
                           obtain rfl := Option.some.inj H
                           go_wp2_with (first | (go_at_call 13; (with_reducible refine (impl_ExchangeSlots.calls _ _ t102 t117 t118 t129 t130 _ ?side1 ?side2 A53.out).mono ?_); (case side1 => exact zC (Kd.R_reads' HO_3.out).2.2); (case side2 => exact (Kd.R_reads' HO_3.out).2.1); rintro e w58 ⟨v131, rfl, ho0, hb⟩; have n_ := y3 (Kd.R_elder' (zR HO_3.out) (Kd.R_base ho0) hb) (Kd.R_lower (Kd.R_new' ho0 (Kd.R_lt (zR HO_3.out))) (below_size (zB))) (below_step (zB) hb); clear HO_3 HB; obtain ⟨HO_3, HO132, HB⟩ := n_; (try clear hb); (try clear hb2); (try clear hk); (try clear hi); (try clear ho0); obtain ⟨Ao59, co59, eo59⟩ := Kd.R_slice HO132.out; subst eo59) | (go_at_call 8; (with_reducible refine (impl_SquaresOf.calls kj43 _ _ t129 t133 t134 _ ?side1 ?side2 A54.out).mono ?_); (case side1 => exact zC (Kd.R_reads' HO132.out).2.2); (case side2 => exact (Kd.R_reads' HO132.out).2.1); rintro e w60 ⟨rfl, hb⟩; have n_ := y3 (Kd.R_below (zR HO_3.out) hb) (Kd.R_below (zR HO132.out) hb) (below_step (zB) hb); clear HO_3 HO132 HB; obtain ⟨HO_3, HO132, HB⟩ := n_; (try clear hb); (try clear hb2); (try clear hk); (try clear hi)))
                           repeat (go_quiet (fail); try go_wp2)
                           go_ret
                           exact ⟨zE, zB⟩
                         · rw [if_neg c57] at H
                           have c57b0 : decide (t113 ≤ t133) = false := decide_eq_false c57
                           clear c57
                           by_cases c61 : t133 < t124
                           · rw [if_pos c61] at H
                             have c61b0 : decide (t133 < t124) = true := decide_eq_true c61
                             clear c61
                             obtain rfl := Option.some.inj H
                             go_wp2_with (first | (go_at_call 13; (with_reducible refine (impl_ExchangeSlots.calls _ _ t102 t117 t118 t129 t130 _ ?side1 ?side2 A53.out).mono ?_); (case side1 => exact zC (Kd.R_reads' HO_3.out).2.2); (case side2 => exact (Kd.R_reads' HO_3.out).2.1); rintro e w62 ⟨v131, rfl, ho0, hb⟩; have n_ := y3 (Kd.R_elder' (zR HO_3.out) (Kd.R_base ho0) hb) (Kd.R_lower (Kd.R_new' ho0 (Kd.R_lt (zR HO_3.out))) (below_size (zB))) (below_step (zB) hb); clear HO_3 HB; obtain ⟨HO_3, HO132, HB⟩ := n_; (try clear hb); (try clear hb2); (try clear hk); (try clear hi); (try clear ho0); obtain ⟨Ao63, co63, eo63⟩ := Kd.R_slice HO132.out; subst eo63) | (go_at_call 8; (with_reducible refine (impl_SquaresOf.calls kj43 _ _ t129 t133 t134 _ ?side1 ?side2 A54.out).mono ?_); (case side1 => exact zC (Kd.R_reads' HO132.out).2.2); (case side2 => exact (Kd.R_reads' HO132.out).2.1); rintro e w64 ⟨rfl, hb⟩; have n_ := y3 (Kd.R_below (zR HO_3.out) hb) (Kd.R_below (zR HO132.out) hb) (below_step (zB) hb); clear HO_3 HO132 HB; obtain ⟨HO_3, HO132, HB⟩ := n_; (try clear hb); (try clear hb2); (try clear hk); (try clear hi)))
                             repeat (go_quiet (fail); try go_wp2)
                             go_ret
                             exact ⟨zE, zB⟩
                           · rw [if_neg c61] at H
                             have c61b0 : decide (t133 < t124) = false := decide_eq_false c61
                             clear c61
                             have H' := Aside0.mk H
                             clear H
                             go_wp2_with (first | (go_at_call 13; (with_reducible refine (impl_ExchangeSlots.calls _ _ t102 t117 t118 t129 t130 _ ?side1 ?side2 A53.out).mono ?_); (case side1 => exact zC (Kd.R_reads' HO_3.out).2.2); (case side2 => exact (Kd.R_reads' HO_3.out).2.1); rintro e w65 ⟨v131, rfl, ho0, hb⟩; have n_ := y3 (Kd.R_elder' (zR HO_3.out) (Kd.R_base ho0) hb) (Kd.R_lower (Kd.R_new' ho0 (Kd.R_lt (zR HO_3.out))) (below_size (zB))) (below_step (zB) hb); clear HO_3 HB; obtain ⟨HO_3, HO132, HB⟩ := n_; (try clear hb); (try clear hb2); (try clear hk); (try clear hi); (try clear ho0); obtain ⟨Ao66, co66, eo66⟩ := Kd.R_slice HO132.out; subst eo66) | (go_at_call 8; (with_reducible refine (impl_SquaresOf.calls kj43 _ _ t129 t133 t134 _ ?side1 ?side2 A54.out).mono ?_); (case side1 => exact zC (Kd.R_reads' HO132.out).2.2); (case side2 => exact (Kd.R_reads' HO132.out).2.1); rintro e w67 ⟨rfl, hb⟩; have n_ := y3 (Kd.R_below (zR HO_3.out) hb) (Kd.R_below (zR HO132.out) hb) (below_step (zB) hb); clear HO_3 HO132 HB; obtain ⟨HO_3, HO132, HB⟩ := n_; (try clear hb); (try clear hb2); (try clear hk); (try clear hi)))
                             repeat (go_quiet (fail); try go_wp2)
                             go_meet
                             case rel => exact ⟨_, H', ⟨by have := HJ10.out; have := HJ43.out; first | omega | exact Nat.le_refl _⟩, ⟨zB⟩⟩
                       · rw [if_neg c56] at H
                         have c56b0 : (t134 == 0) = false := beq_eq_false_iff_ne.mpr c56
                         have c56b1 : (t134 != 0) = true := bne_iff_ne.mpr c56
                         obtain rfl := Option.some.inj H
                         go_wp2_with (first | (go_at_call 13; (with_reducible refine (impl_ExchangeSlots.calls _ _ t102 t117 t118 t129 t130 _ ?side1 ?side2 A53.out).mono ?_); (case side1 => exact zC (Kd.R_reads' HO_3.out).2.2); (case side2 => exact (Kd.R_reads' HO_3.out).2.1); rintro e w68 ⟨v131, rfl, ho0, hb⟩; have n_ := y3 (Kd.R_elder' (zR HO_3.out) (Kd.R_base ho0) hb) (Kd.R_lower (Kd.R_new' ho0 (Kd.R_lt (zR HO_3.out))) (below_size (zB))) (below_step (zB) hb); clear HO_3 HB; obtain ⟨HO_3, HO132, HB⟩ := n_; (try clear hb); (try clear hb2); (try clear hk); (try clear hi); (try clear ho0); obtain ⟨Ao69, co69, eo69⟩ := Kd.R_slice HO132.out; subst eo69) | (go_at_call 8; (with_reducible refine (impl_SquaresOf.calls kj43 _ _ t129 t133 t134 _ ?side1 ?side2 A54.out).mono ?_); (case side1 => exact zC (Kd.R_reads' HO132.out).2.2); (case side2 => exact (Kd.R_reads' HO132.out).2.1); rintro e w70 ⟨rfl, hb⟩; have n_ := y3 (Kd.R_below (zR HO_3.out) hb) (Kd.R_below (zR HO132.out) hb) (below_step (zB) hb); clear HO_3 HO132 HB; obtain ⟨HO_3, HO132, HB⟩ := n_; (try clear hb); (try clear hb2); (try clear hk); (try clear hi)))
                         repeat (go_quiet (fail); try go_wp2)
                         go_ret
                         exact ⟨zE, zB⟩
                     · rw [if_neg c55] at H
                       have c55b0 : (t130 == 0) = false := beq_eq_false_iff_ne.mpr c55
                       have c55b1 : (t130 != 0) = true := bne_iff_ne.mpr c55
                       obtain rfl := Option.some.inj H
                       go_wp2_with (first | (go_at_call 13; (with_reducible refine (impl_ExchangeSlots.calls _ _ t102 t117 t118 t129 t130 _ ?side1 ?side2 A53.out).mono ?_); (case side1 => exact zC (Kd.R_reads' HO_3.out).2.2); (case side2 => exact (Kd.R_reads' HO_3.out).2.1); rintro e w71 ⟨v131, rfl, ho0, hb⟩; have n_ := y3 (Kd.R_elder' (zR HO_3.out) (Kd.R_base ho0) hb) (Kd.R_lower (Kd.R_new' ho0 (Kd.R_lt (zR HO_3.out))) (below_size (zB))) (below_step (zB) hb); clear HO_3 HB; obtain ⟨HO_3, HO132, HB⟩ := n_; (try clear hb); (try clear hb2); (try clear hk); (try clear hi); (try clear ho0); obtain ⟨Ao72, co72, eo72⟩ := Kd.R_slice HO132.out; subst eo72) | (go_at_call 8; (with_reducible refine (impl_SquaresOf.calls kj43 _ _ t129 t133 t134 _ ?side1 ?side2 A54.out).mono ?_); (case side1 => exact zC (Kd.R_reads' HO132.out).2.2); (case side2 => exact (Kd.R_reads' HO132.out).2.1); rintro e w73 ⟨rfl, hb⟩; have n_ := y3 (Kd.R_below (zR HO_3.out) hb) (Kd.R_below (zR HO132.out) hb) (below_step (zB) hb); clear HO_3 HO132 HB; obtain ⟨HO_3, HO132, HB⟩ := n_; (try clear hb); (try clear hb2); (try clear hk); (try clear hi)))
                       repeat (go_quiet (fail); try go_wp2)
                       go_ret
                       exact ⟨zE, zB⟩
                   · rw [if_neg c52] at H
                     have c52b0 : (t119 == 0) = false := beq_eq_false_iff_ne.mpr c52
                     have c52b1 : (t119 != 0) = true := bne_iff_ne.mpr c52
                     have H' := Aside0.mk H
                     clear H
                     go_wp2
                     repeat (go_quiet (fail); try go_wp2)
                     go_meet
                     case rel => exact ⟨_, H', ⟨by have := HJ10.out; have := HJ43.out; first | omega | exact Nat.le_refl _⟩, ⟨zB⟩⟩
          · rw [if_neg c41] at H
            have c41b0 : (t106 == 0) = false := beq_eq_false_iff_ne.mpr c41
            have c41b1 : (t106 != 0) = true := bne_iff_ne.mpr c41
            (first | rw [c41b0] | (simp only [i64_w, i32_w]; rw [c41b0]) | skip)
            have H' := Aside0.mk H
            clear H
            go_wp2
            repeat (go_quiet (fail); try go_wp2)
            go_meet
            case rel => exact ⟨_, H', ⟨by have := HJ10.out; first | omega | exact Nat.le_refl _⟩, ⟨zB⟩⟩
       case rest =>
         as_aux_lemma =>
          clear HC40
          try clear c3
          try clear c39
          obtain ⟨kq, HA, HJ39, HB⟩ := hcut
          cases kq with
          | zero => exact absurd HA.out (by simp [laws_FnExchanges.j2])
          | succ kj39 =>
            have H := HA.out
            clear HA
            simp only [laws_FnExchanges.j2] at H
            replace H := Option.bind_eq_some_iff.mp H
            obtain ⟨⟨t135, t136, t137⟩, A740, H⟩ := H
            replace H : ((impl_ExchangeSlots.f t135 t136 t137).bind fun bt140 => ((spec_ExchangeSlots.f kj39 t135 t136 t137).bind fun bt144 => (if bt140.2 = bt144.2 then ((laws_likeInts.f kj39 bt140.1 bt144.1).bind fun t148 => (laws_FnExchanges.j3 kj39 l0 t135 t136 t137 bt140.1 bt140.2 (!t148))) else (laws_FnExchanges.j3 kj39 l0 t135 t136 t137 bt140.1 bt140.2 true)))) = some r := H
            have A74 := Aside0.mk A740
            clear A740
            replace H := Option.bind_eq_some_iff.mp H
            obtain ⟨⟨t140, t141⟩, A750, H⟩ := H
            replace H : ((spec_ExchangeSlots.f kj39 t135 t136 t137).bind fun bt144 => (if t141 = bt144.2 then ((laws_likeInts.f kj39 t140 bt144.1).bind fun t148 => (laws_FnExchanges.j3 kj39 l0 t135 t136 t137 t140 t141 (!t148))) else (laws_FnExchanges.j3 kj39 l0 t135 t136 t137 t140 t141 true))) = some r := H
            have A75 := Aside0.mk A750
            clear A750
            replace H := Option.bind_eq_some_iff.mp H
            obtain ⟨⟨t144, t145⟩, A760, H⟩ := H
            replace H : (if t141 = t145 then ((laws_likeInts.f kj39 t140 t144).bind fun t148 => (laws_FnExchanges.j3 kj39 l0 t135 t136 t137 t140 t141 (!t148))) else (laws_FnExchanges.j3 kj39 l0 t135 t136 t137 t140 t141 true)) = some r := H
            have A76 := Aside0.mk A760
            clear A760
            have HC77 := Aside0.mk H
            clear H
            go_upto_region 25 with (first | (go_at_call 14; (with_reducible refine (spec_DrawExchangeSlots.calls kj39 _ _ l0 t135 t136 t137 _ ?side1 ?side2 A74.out).mono ?_); (case side1 => exact zC (Kd.C_below HR0.out HB.out)); (case side2 => exact HC0.out); rintro e w78 ⟨v138, rfl, ho0, hb⟩; have n_ := y2 (Kd.R_lower ho0 (below_size (zB))) (below_step (zB) hb); clear HB; obtain ⟨HO139, HB⟩ := n_; (try clear hb); (try clear hb2); (try clear hk); (try clear hi); (try clear ho0); obtain ⟨Ao79, co79, eo79⟩ := Kd.R_slice HO139.out; subst eo79) | (go_at_call 13; (with_reducible refine (impl_ExchangeSlots.calls _ _ t135 t136 t137 t140 t141 _ ?side1 ?side2 A75.out).mono ?_); (case side1 => exact zC (Kd.R_reads' HO139.out).2.2); (case side2 => exact (Kd.R_reads' HO139.out).2.1); rintro e w80 ⟨v142, rfl, ho0, hb⟩; have n_ := y3 (Kd.R_elder' (zR HO139.out) (Kd.R_base ho0) hb) (Kd.R_lower (Kd.R_new' ho0 (Kd.R_lt (zR HO139.out))) (below_size (zB))) (below_step (zB) hb); clear HO139 HB; obtain ⟨HO139, HO143, HB⟩ := n_; (try clear hb); (try clear hb2); (try clear hk); (try clear hi); (try clear ho0)) | (go_at_call 15; (with_reducible refine (spec_ExchangeSlots.calls kj39 _ _ t135 t136 t137 t144 t145 _ ?side1 ?side2 A76.out).mono ?_); (case side1 => exact zC (Kd.R_reads' HO139.out).2.2); (case side2 => exact (Kd.R_reads' HO139.out).2.1); rintro e w81 ⟨v146, rfl, ho0, hb⟩; have n_ := y4 (Kd.R_elder' (zR HO139.out) (Kd.R_base ho0) hb) (Kd.R_elder' (zR HO143.out) (Kd.R_base ho0) hb) (Kd.R_lower (Kd.R_new' (Kd.R_new' ho0 (Kd.R_lt (zR HO139.out))) (Kd.R_lt (zR HO143.out))) (below_size (zB))) (below_step (zB) hb); clear HO139 HO143 HB; obtain ⟨HO139, HO143, HO147, HB⟩ := n_; (try clear hb); (try clear hb2); (try clear hk); (try clear hi); (try clear ho0)))
            repeat (go_quiet (fail); go_upto_region 25 with (fail))
            (try simp only [Act.put, List.setIfInBounds_toArray, List.set_cons_zero, List.set_cons_succ])
            go_cut [213] (fun v213 wc => ∃ (kq : Nat) (x213_76 : Bool), v213 = .bool x213_76 ∧ Aside0 (laws_FnExchanges.j3 kq l0 t135 t136 t137 t140 t141 x213_76 = some r) ∧ Aside0 (kq ≤ kj39) ∧ Aside0 (Kd.R (Kd.int .i64) 2 wc w.heap.size (fun k_ => some k_ ≠ (v142 : Value).ownBlock) (.slice Ao79 t135.length co79) t135) ∧ Aside0 (Kd.R (Kd.int .i64) 2 wc w.heap.size (fun k_ => some k_ ≠ ((.slice Ao79 t135.length co79) : Value).ownBlock) v142 t140) ∧ Aside0 (Below w.heap.size w wc))
            case first =>
              as_aux_lemma =>
               have H := HC77.out
               clear HC77
               by_cases c82 : t141 = t145
               · rw [if_pos c82] at H
                 have c82b0 : (t141 == t145) = true := beq_iff_eq.mpr c82
                 have c82b1 : (t141 != t145) = false := bne_eq_false_iff_eq.mpr c82
                 clear c82
                 (first | rw [c82b0] | (simp only [i64_w, i32_w]; rw [c82b0]) | skip)
                 replace H := Option.bind_eq_some_iff.mp H
                 obtain ⟨t148, A830, H⟩ := H
                 replace H : (laws_FnExchanges.j3 kj39 l0 t135 t136 t137 t140 t141 (!t148)) = some r := H
                 have A83 := Aside0.mk A830
                 clear A830
                 have H' := Aside0.mk H
                 clear H
                 obtain ⟨Ao84, co84, eo84⟩ := Kd.R_slice HO143.out
                 subst eo84
                 obtain ⟨Ao85, co85, eo85⟩ := Kd.R_slice HO147.out
                 subst eo85
                 go_wp2_with (first | (go_at_call 12; (with_reducible refine (laws_likeInts.calls kj39 _ _ t140 _ _ t144 t148 _ ?side1 ?side2 ?side3 ?side4 A83.out).mono ?_); (case side1 => exact zC (Kd.R_reads' HO143.out).2.2); (case side2 => exact (Kd.R_reads' HO143.out).2.1); (case side3 => exact zC (Kd.R_reads' HO147.out).2.2); (case side4 => exact (Kd.R_reads' HO147.out).2.1); rintro e w' ⟨rfl, ⟨nd, rfl⟩⟩; (try exact zd)))
                 repeat (go_quiet (first | (go_at_call 12; (with_reducible refine (laws_likeInts.calls kj39 _ _ t140 _ _ t144 t148 _ ?side1 ?side2 ?side3 ?side4 A83.out).mono ?_); (case side1 => exact zC (Kd.R_reads' HO143.out).2.2); (case side2 => exact (Kd.R_reads' HO143.out).2.1); (case side3 => exact zC (Kd.R_reads' HO147.out).2.2); (case side4 => exact (Kd.R_reads' HO147.out).2.1); rintro e w' ⟨rfl, ⟨nd, rfl⟩⟩; (try exact zd))); try go_wp2_with (first | (go_at_call 12; (with_reducible refine (laws_likeInts.calls kj39 _ _ t140 _ _ t144 t148 _ ?side1 ?side2 ?side3 ?side4 A83.out).mono ?_); (case side1 => exact zC (Kd.R_reads' HO143.out).2.2); (case side2 => exact (Kd.R_reads' HO143.out).2.1); (case side3 => exact zC (Kd.R_reads' HO147.out).2.2); (case side4 => exact (Kd.R_reads' HO147.out).2.1); rintro e w' ⟨rfl, ⟨nd, rfl⟩⟩; (try exact zd))))
                 go_meet
                 case rel => exact ⟨_, (!t148), zF, H', ⟨by have := HJ10.out; have := HJ39.out; first | omega | exact Nat.le_refl _⟩, ⟨by refine zR ?_; exact Kd.R_mono HO139.out (fun _ hk => hk.1.2)⟩, ⟨by refine zR ?_; exact Kd.R_mono HO143.out (fun _ hk => hk.1.2)⟩, ⟨zB⟩⟩
               · rw [if_neg c82] at H
                 have c82b0 : (t141 == t145) = false := beq_eq_false_iff_ne.mpr c82
                 have c82b1 : (t141 != t145) = true := bne_iff_ne.mpr c82
                 (first | rw [c82b0] | (simp only [i64_w, i32_w]; rw [c82b0]) | skip)
                 have H' := Aside0.mk H
                 clear H
                 go_wp2
                 repeat (go_quiet (fail); try go_wp2)
                 go_meet
                 case rel => exact ⟨_, (true), zF, H', ⟨by have := HJ10.out; have := HJ39.out; first | omega | exact Nat.le_refl _⟩, ⟨by refine zR ?_; exact Kd.R_mono HO139.out (fun _ hk => hk.1.2)⟩, ⟨by refine zR ?_; exact Kd.R_mono HO143.out (fun _ hk => hk.1.2)⟩, ⟨zB⟩⟩
            case rest =>
              as_aux_lemma =>
               clear HC77
               try clear c3
               try clear c39
               obtain ⟨kq, x213_76, rfl, HA, HJ76, HO_27, HO_30, HB⟩ := hcut
               cases kq with
               | zero => exact absurd HA.out (by simp [laws_FnExchanges.j3])
               | succ kj76 =>
                 have H := HA.out
                 clear HA
                 simp only [laws_FnExchanges.j3] at H
                 by_cases c86 : x213_76 = true
                 · subst c86
                   have H1 : (some false) = some r := by rw [if_pos rfl] at H; exact H
                   clear H
                   have H := H1
                   clear H1
                   obtain rfl := Option.some.inj H
                   go_wp2
                   repeat (go_quiet (fail); try go_wp2)
                   go_ret
                   exact ⟨zE, zB⟩
                 · replace c86 := Bool.eq_false_iff.mpr c86
                   subst c86
                   have H1 : (if t141 = 0 then ((impl_ExchangeSlots.f t140 t137 t136).bind fun bt149 => (if bt149.2 = 0 then ((laws_likeInts.f kj76 bt149.1 t135).bind fun t153 => (if t153 = true then (laws_FnExchanges.j4 kj76 l0) else (some false))) else (some false))) else (laws_FnExchanges.j4 kj76 l0)) = some r := by rw [if_neg (show ¬ (false = true) by decide)] at H; exact H
                   clear H
                   have H := H1
                   clear H1
                   have HC87 := Aside0.mk H
                   clear H
                   go_upto_if 215 with (fail)
                   repeat (go_quiet (fail); go_upto_if 215 with (fail))
                   go_cut [] (fun wc => ∃ (kq : Nat), Aside0 (laws_FnExchanges.j4 kq l0 = some r) ∧ Aside0 (kq ≤ kj76) ∧ Aside0 (Below w.heap.size w wc))
                   case first =>
                     as_aux_lemma =>
                      have H := HC87.out
                      clear HC87
                      by_cases c88 : t141 = 0
                      · rw [if_pos c88] at H
                        have c88b0 : (t141 == 0) = true := beq_iff_eq.mpr c88
                        have c88b1 : (t141 != 0) = false := bne_eq_false_iff_eq.mpr c88
                        clear c88
                        (first | rw [c88b0] | (simp only [i64_w, i32_w]; rw [c88b0]) | skip)
                        replace H := Option.bind_eq_some_iff.mp H
                        obtain ⟨⟨t149, t150⟩, A890, H⟩ := H
                        replace H : (if t150 = 0 then ((laws_likeInts.f kj76 t149 t135).bind fun t153 => (if t153 = true then (laws_FnExchanges.j4 kj76 l0) else (some false))) else (some false)) = some r := H
                        have A89 := Aside0.mk A890
                        clear A890
                        by_cases c90 : t150 = 0
                        · rw [if_pos c90] at H
                          have c90b0 : (t150 == 0) = true := beq_iff_eq.mpr c90
                          have c90b1 : (t150 != 0) = false := bne_eq_false_iff_eq.mpr c90
                          clear c90
                          replace H := Option.bind_eq_some_iff.mp H
                          obtain ⟨t153, A910, H⟩ := H
                          replace H : (if t153 = true then (laws_FnExchanges.j4 kj76 l0) else (some false)) = some r := H
                          have A91 := Aside0.mk A910
                          clear A910
                          by_cases c92 : t153 = true
                          · subst c92
                            have H1 : (laws_FnExchanges.j4 kj76 l0) = some r := by rw [if_pos rfl] at H; exact H
                            clear H
                            have H := H1
                            clear H1
                            have H' := Aside0.mk H
                            clear H
                            obtain ⟨Ao93, co93, eo93⟩ := Kd.R_slice HO_30.out
                            subst eo93
                            go_wp2_with (first | (go_at_call 13; (with_reducible refine (impl_ExchangeSlots.calls _ _ t140 t137 t136 t149 t150 _ ?side1 ?side2 A89.out).mono ?_); (case side1 => exact zC (Kd.R_reads' HO_30.out).2.2); (case side2 => exact (Kd.R_reads' HO_30.out).2.1); rintro e w94 ⟨v151, rfl, ho0, hb⟩; have n_ := y4 (Kd.R_elder' (zR HO_27.out) (Kd.R_base ho0) hb) (Kd.R_elder' (zR HO_30.out) (Kd.R_base ho0) hb) (Kd.R_lower (Kd.R_new' (Kd.R_new' ho0 (Kd.R_lt (zR HO_27.out))) (Kd.R_lt (zR HO_30.out))) (below_size (zB))) (below_step (zB) hb); clear HO_27 HO_30 HB; obtain ⟨HO_27, HO_30, HO152, HB⟩ := n_; (try clear hb); (try clear hb2); (try clear hk); (try clear hi); (try clear ho0); obtain ⟨Ao95, co95, eo95⟩ := Kd.R_slice HO152.out; subst eo95) | (go_at_call 12; (with_reducible refine (laws_likeInts.calls kj76 _ _ t149 _ _ t135 true _ ?side1 ?side2 ?side3 ?side4 A91.out).mono ?_); (case side1 => exact zC (Kd.R_reads' HO152.out).2.2); (case side2 => exact (Kd.R_reads' HO152.out).2.1); (case side3 => exact zC (Kd.R_reads' HO_27.out).2.2); (case side4 => exact (Kd.R_reads' HO_27.out).2.1); rintro e w' ⟨rfl, ⟨nd, rfl⟩⟩; (try exact zd)))
                            repeat (go_quiet (fail); try go_wp2)
                            go_meet
                            case rel => exact ⟨_, H', ⟨by have := HJ10.out; have := HJ39.out; have := HJ76.out; first | omega | exact Nat.le_refl _⟩, ⟨zB⟩⟩
                          · replace c92 := Bool.eq_false_iff.mpr c92
                            subst c92
                            have H1 : (some false) = some r := by rw [if_neg (show ¬ (false = true) by decide)] at H; exact H
                            clear H
                            have H := H1
                            clear H1
                            obtain rfl := Option.some.inj H
                            obtain ⟨Ao96, co96, eo96⟩ := Kd.R_slice HO_30.out
                            subst eo96
                            go_wp2_with (first | (go_at_call 13; (with_reducible refine (impl_ExchangeSlots.calls _ _ t140 t137 t136 t149 t150 _ ?side1 ?side2 A89.out).mono ?_); (case side1 => exact zC (Kd.R_reads' HO_30.out).2.2); (case side2 => exact (Kd.R_reads' HO_30.out).2.1); rintro e w97 ⟨v151, rfl, ho0, hb⟩; have n_ := y4 (Kd.R_elder' (zR HO_27.out) (Kd.R_base ho0) hb) (Kd.R_elder' (zR HO_30.out) (Kd.R_base ho0) hb) (Kd.R_lower (Kd.R_new' (Kd.R_new' ho0 (Kd.R_lt (zR HO_27.out))) (Kd.R_lt (zR HO_30.out))) (below_size (zB))) (below_step (zB) hb); clear HO_27 HO_30 HB; obtain ⟨HO_27, HO_30, HO152, HB⟩ := n_; (try clear hb); (try clear hb2); (try clear hk); (try clear hi); (try clear ho0); obtain ⟨Ao98, co98, eo98⟩ := Kd.R_slice HO152.out; subst eo98) | (go_at_call 12; (with_reducible refine (laws_likeInts.calls kj76 _ _ t149 _ _ t135 false _ ?side1 ?side2 ?side3 ?side4 A91.out).mono ?_); (case side1 => exact zC (Kd.R_reads' HO152.out).2.2); (case side2 => exact (Kd.R_reads' HO152.out).2.1); (case side3 => exact zC (Kd.R_reads' HO_27.out).2.2); (case side4 => exact (Kd.R_reads' HO_27.out).2.1); rintro e w' ⟨rfl, ⟨nd, rfl⟩⟩; (try exact zd)))
                            repeat (go_quiet (fail); try go_wp2)
                            go_ret
                            exact ⟨zE, zB⟩
                        · rw [if_neg c90] at H
                          have c90b0 : (t150 == 0) = false := beq_eq_false_iff_ne.mpr c90
                          have c90b1 : (t150 != 0) = true := bne_iff_ne.mpr c90
                          obtain rfl := Option.some.inj H
                          obtain ⟨Ao99, co99, eo99⟩ := Kd.R_slice HO_30.out
                          subst eo99
                          go_wp2_with (first | (go_at_call 13; (with_reducible refine (impl_ExchangeSlots.calls _ _ t140 t137 t136 t149 t150 _ ?side1 ?side2 A89.out).mono ?_); (case side1 => exact zC (Kd.R_reads' HO_30.out).2.2); (case side2 => exact (Kd.R_reads' HO_30.out).2.1); rintro e w100 ⟨v151, rfl, ho0, hb⟩; have n_ := y4 (Kd.R_elder' (zR HO_27.out) (Kd.R_base ho0) hb) (Kd.R_elder' (zR HO_30.out) (Kd.R_base ho0) hb) (Kd.R_lower (Kd.R_new' (Kd.R_new' ho0 (Kd.R_lt (zR HO_27.out))) (Kd.R_lt (zR HO_30.out))) (below_size (zB))) (below_step (zB) hb); clear HO_27 HO_30 HB; obtain ⟨HO_27, HO_30, HO152, HB⟩ := n_; (try clear hb); (try clear hb2); (try clear hk); (try clear hi); (try clear ho0)))
                          repeat (go_quiet (fail); try go_wp2)
                          go_ret
                          exact ⟨zE, zB⟩
                      · rw [if_neg c88] at H
                        have c88b0 : (t141 == 0) = false := beq_eq_false_iff_ne.mpr c88
                        have c88b1 : (t141 != 0) = true := bne_iff_ne.mpr c88
                        (first | rw [c88b0] | (simp only [i64_w, i32_w]; rw [c88b0]) | skip)
                        have H' := Aside0.mk H
                        clear H
                        go_wp2
                        repeat (go_quiet (fail); try go_wp2)
                        go_meet
                        case rel => exact ⟨_, H', ⟨by have := HJ10.out; have := HJ39.out; have := HJ76.out; first | omega | exact Nat.le_refl _⟩, ⟨zB⟩⟩
                   case rest =>
                     as_aux_lemma =>
                      clear HC87
                      try clear c3
                      try clear c39
                      try clear c86
                      obtain ⟨kq, HA, HJ86, HB⟩ := hcut
                      cases kq with
                      | zero => exact absurd HA.out (by simp [laws_FnExchanges.j4])
                      | succ kj86 =>
                        have H := HA.out
                        clear HA
                        simp only [laws_FnExchanges.j4] at H
                        replace H := Option.bind_eq_some_iff.mp H
                        obtain ⟨t154, A1010, H⟩ := H
                        replace H : ((impl_SpreadsOf.f kj86 t154).bind fun bt157 => ((spec_SpreadsOf.f kj86 t154).bind fun bt161 => ((impl_GreatestDifference.f kj86 t154).bind fun bt165 => ((spec_GreatestDifference.f kj86 t154).bind fun bt167 => (if bt157.2 = bt161.2 then ((laws_rows5.f kj86 bt157.1 bt161.1).bind fun t169 => (if t169 = true then (if bt165.2 = bt167.2 then (laws_FnExchanges.j5 kj86 l0 t154 bt157.1 bt157.2 (bt165.1 != bt167.1)) else (laws_FnExchanges.j5 kj86 l0 t154 bt157.1 bt157.2 true)) else (laws_FnExchanges.j5 kj86 l0 t154 bt157.1 bt157.2 true))) else (laws_FnExchanges.j5 kj86 l0 t154 bt157.1 bt157.2 true)))))) = some r := H
                        have A101 := Aside0.mk A1010
                        clear A1010
                        replace H := Option.bind_eq_some_iff.mp H
                        obtain ⟨⟨t157, t158⟩, A1020, H⟩ := H
                        replace H : ((spec_SpreadsOf.f kj86 t154).bind fun bt161 => ((impl_GreatestDifference.f kj86 t154).bind fun bt165 => ((spec_GreatestDifference.f kj86 t154).bind fun bt167 => (if t158 = bt161.2 then ((laws_rows5.f kj86 t157 bt161.1).bind fun t169 => (if t169 = true then (if bt165.2 = bt167.2 then (laws_FnExchanges.j5 kj86 l0 t154 t157 t158 (bt165.1 != bt167.1)) else (laws_FnExchanges.j5 kj86 l0 t154 t157 t158 true)) else (laws_FnExchanges.j5 kj86 l0 t154 t157 t158 true))) else (laws_FnExchanges.j5 kj86 l0 t154 t157 t158 true))))) = some r := H
                        have A102 := Aside0.mk A1020
                        clear A1020
                        replace H := Option.bind_eq_some_iff.mp H
                        obtain ⟨⟨t161, t162⟩, A1030, H⟩ := H
                        replace H : ((impl_GreatestDifference.f kj86 t154).bind fun bt165 => ((spec_GreatestDifference.f kj86 t154).bind fun bt167 => (if t158 = t162 then ((laws_rows5.f kj86 t157 t161).bind fun t169 => (if t169 = true then (if bt165.2 = bt167.2 then (laws_FnExchanges.j5 kj86 l0 t154 t157 t158 (bt165.1 != bt167.1)) else (laws_FnExchanges.j5 kj86 l0 t154 t157 t158 true)) else (laws_FnExchanges.j5 kj86 l0 t154 t157 t158 true))) else (laws_FnExchanges.j5 kj86 l0 t154 t157 t158 true)))) = some r := H
                        have A103 := Aside0.mk A1030
                        clear A1030
                        replace H := Option.bind_eq_some_iff.mp H
                        obtain ⟨⟨t165, t166⟩, A1040, H⟩ := H
                        replace H : ((spec_GreatestDifference.f kj86 t154).bind fun bt167 => (if t158 = t162 then ((laws_rows5.f kj86 t157 t161).bind fun t169 => (if t169 = true then (if t166 = bt167.2 then (laws_FnExchanges.j5 kj86 l0 t154 t157 t158 (t165 != bt167.1)) else (laws_FnExchanges.j5 kj86 l0 t154 t157 t158 true)) else (laws_FnExchanges.j5 kj86 l0 t154 t157 t158 true))) else (laws_FnExchanges.j5 kj86 l0 t154 t157 t158 true))) = some r := H
                        have A104 := Aside0.mk A1040
                        clear A1040
                        replace H := Option.bind_eq_some_iff.mp H
                        obtain ⟨⟨t167, t168⟩, A1050, H⟩ := H
                        replace H : (if t158 = t162 then ((laws_rows5.f kj86 t157 t161).bind fun t169 => (if t169 = true then (if t166 = t168 then (laws_FnExchanges.j5 kj86 l0 t154 t157 t158 (t165 != t167)) else (laws_FnExchanges.j5 kj86 l0 t154 t157 t158 true)) else (laws_FnExchanges.j5 kj86 l0 t154 t157 t158 true))) else (laws_FnExchanges.j5 kj86 l0 t154 t157 t158 true)) = some r := H
                        have A105 := Aside0.mk A1050
                        clear A1050
                        have HC106 := Aside0.mk H
                        clear H
                        go_upto_region 36 with (first | (go_at_call 16; (with_reducible refine (spec_DrawSpreadsOf.calls kj86 _ _ l0 t154 _ ?side1 ?side2 A101.out).mono ?_); (case side1 => exact zC (Kd.C_below HR0.out HB.out)); (case side2 => exact HC0.out); rintro e w107 ⟨v155, rfl, ho0, hb⟩; have n_ := y2 (Kd.R_lower ho0 (below_size (zB))) (below_step (zB) hb); clear HB; obtain ⟨HO156, HB⟩ := n_; (try clear hb); (try clear hb2); (try clear hk); (try clear hi); (try clear ho0); obtain ⟨Ao108, co108, eo108⟩ := Kd.R_slice HO156.out; subst eo108) | (go_at_call 17; (with_reducible refine (impl_SpreadsOf.calls kj86 _ _ t154 t157 t158 _ ?side1 ?side2 A102.out).mono ?_); (case side1 => exact zC (Kd.R_reads' HO156.out).2.2); (case side2 => exact (Kd.R_reads' HO156.out).2.1); rintro e w109 ⟨v159, rfl, ho0, hb⟩; have n_ := y3 (Kd.R_below (zR HO156.out) hb) (Kd.S_lower (Kd.S_new' ho0 (Kd.R_lt (zR HO156.out))) (below_size (zB))) (below_step (zB) hb); clear HO156 HB; obtain ⟨HO156, HO160, HB⟩ := n_; (try clear hb); (try clear hb2); (try clear hk); (try clear hi); (try clear ho0)) | (go_at_call 18; (with_reducible refine (spec_SpreadsOf.calls kj86 _ _ t154 t161 t162 _ ?side1 ?side2 A103.out).mono ?_); (case side1 => exact zC (Kd.R_reads' HO156.out).2.2); (case side2 => exact (Kd.R_reads' HO156.out).2.1); rintro e w110 ⟨v163, rfl, ho0, hb⟩; have n_ := y4 (Kd.R_below (zR HO156.out) hb) (Kd.S_elder' (by (with_reducible repeat (first | apply Kd.S_alloc | apply Kd.S_drewN | apply Kd.S_drew)); exact HO160.out) (Kd.S_base ho0) hb) (Kd.S_lower (Kd.S_new' (Kd.S_new' ho0 (Kd.R_lt (zR HO156.out))) (Kd.S_lt (by (with_reducible repeat (first | apply Kd.S_alloc | apply Kd.S_drewN | apply Kd.S_drew)); exact HO160.out))) (below_size (zB))) (below_step (zB) hb); clear HO156 HO160 HB; obtain ⟨HO156, HO160, HO164, HB⟩ := n_; (try clear hb); (try clear hb2); (try clear hk); (try clear hi); (try clear ho0)) | (go_at_call 19; (with_reducible refine (impl_GreatestDifference.calls kj86 _ _ t154 t165 t166 _ ?side1 ?side2 A104.out).mono ?_); (case side1 => exact zC (Kd.R_reads' HO156.out).2.2); (case side2 => exact (Kd.R_reads' HO156.out).2.1); rintro e w111 ⟨rfl, hb⟩; have n_ := y4 (Kd.R_below (zR HO156.out) hb) (Kd.S_below (by (with_reducible repeat (first | apply Kd.S_alloc | apply Kd.S_drewN | apply Kd.S_drew)); exact HO160.out) hb) (Kd.S_below (by (with_reducible repeat (first | apply Kd.S_alloc | apply Kd.S_drewN | apply Kd.S_drew)); exact HO164.out) hb) (below_step (zB) hb); clear HO156 HO160 HO164 HB; obtain ⟨HO156, HO160, HO164, HB⟩ := n_; (try clear hb); (try clear hb2); (try clear hk); (try clear hi)) | (go_at_call 20; (with_reducible refine (spec_GreatestDifference.calls kj86 _ _ t154 t167 t168 _ ?side1 ?side2 A105.out).mono ?_); (case side1 => exact zC (Kd.R_reads' HO156.out).2.2); (case side2 => exact (Kd.R_reads' HO156.out).2.1); rintro e w112 ⟨rfl, hb⟩; have n_ := y4 (Kd.R_below (zR HO156.out) hb) (Kd.S_below (by (with_reducible repeat (first | apply Kd.S_alloc | apply Kd.S_drewN | apply Kd.S_drew)); exact HO160.out) hb) (Kd.S_below (by (with_reducible repeat (first | apply Kd.S_alloc | apply Kd.S_drewN | apply Kd.S_drew)); exact HO164.out) hb) (below_step (zB) hb); clear HO156 HO160 HO164 HB; obtain ⟨HO156, HO160, HO164, HB⟩ := n_; (try clear hb); (try clear hb2); (try clear hk); (try clear hi)))
                        repeat (go_quiet (fail); go_upto_region 36 with (fail))
                        (try simp only [Act.put, List.setIfInBounds_toArray, List.set_cons_zero, List.set_cons_succ])
                        go_cut [271] (fun v271 wc => ∃ (kq : Nat) (x271_105 : Bool), v271 = .bool x271_105 ∧ Aside0 (laws_FnExchanges.j5 kq l0 t154 t157 t158 x271_105 = some r) ∧ Aside0 (kq ≤ kj86) ∧ Aside0 (Kd.R (Kd.int .i64) 2 wc w.heap.size (fun _ => True) (.slice Ao108 t154.length co108) t154) ∧ Aside0 (Kd.S (Kd.slice 2 (Kd.int .i64)) 24 wc w.heap.size (fun k_ => some k_ ≠ ((.slice Ao108 t154.length co108) : Value).ownBlock) v159 t157) ∧ Aside0 (Below w.heap.size w wc))
                        case first =>
                          as_aux_lemma =>
                           have H := HC106.out
                           clear HC106
                           by_cases c113 : t158 = t162
                           · rw [if_pos c113] at H
                             have c113b0 : (t158 == t162) = true := beq_iff_eq.mpr c113
                             have c113b1 : (t158 != t162) = false := bne_eq_false_iff_eq.mpr c113
                             clear c113
                             (first | rw [c113b0] | (simp only [i64_w, i32_w]; rw [c113b0]) | skip)
                             replace H := Option.bind_eq_some_iff.mp H
                             obtain ⟨t169, A1140, H⟩ := H
                             replace H : (if t169 = true then (if t166 = t168 then (laws_FnExchanges.j5 kj86 l0 t154 t157 t158 (t165 != t167)) else (laws_FnExchanges.j5 kj86 l0 t154 t157 t158 true)) else (laws_FnExchanges.j5 kj86 l0 t154 t157 t158 true)) = some r := H
                             have A114 := Aside0.mk A1140
                             clear A1140
                             by_cases c115 : t169 = true
                             · subst c115
                               have H1 : (if t166 = t168 then (laws_FnExchanges.j5 kj86 l0 t154 t157 t158 (t165 != t167)) else (laws_FnExchanges.j5 kj86 l0 t154 t157 t158 true)) = some r := by rw [if_pos rfl] at H; exact H
                               clear H
                               have H := H1
                               clear H1
                               by_cases c116 : t166 = t168
                               · rw [if_pos c116] at H
                                 have c116b0 : (t166 == t168) = true := beq_iff_eq.mpr c116
                                 have c116b1 : (t166 != t168) = false := bne_eq_false_iff_eq.mpr c116
                                 clear c116
                                 have H' := Aside0.mk H
                                 clear H
                                 obtain ⟨Ao117, co117, eo117⟩ := Kd.S_slice HO160.out
                                 subst eo117
                                 obtain ⟨Ao118, co118, eo118⟩ := Kd.S_slice HO164.out
                                 subst eo118
                                 go_wp2_with (first | (go_at_call 21; (with_reducible refine (laws_rows5.calls kj86 _ _ t157 _ _ t161 true _ ?side1 ?side2 ?side3 ?side4 A114.out).mono ?_); (case side1 => exact zC (Kd.S_reads' HO160.out).2.2); (case side2 => exact (Kd.S_reads' HO160.out).2.1); (case side3 => exact zC (Kd.S_reads' HO164.out).2.2); (case side4 => exact (Kd.S_reads' HO164.out).2.1); rintro e w' ⟨rfl, ⟨nd, rfl⟩⟩; (try exact zd)))
                                 repeat (go_quiet (first | (go_at_call 21; (with_reducible refine (laws_rows5.calls kj86 _ _ t157 _ _ t161 true _ ?side1 ?side2 ?side3 ?side4 A114.out).mono ?_); (case side1 => exact zC (Kd.S_reads' HO160.out).2.2); (case side2 => exact (Kd.S_reads' HO160.out).2.1); (case side3 => exact zC (Kd.S_reads' HO164.out).2.2); (case side4 => exact (Kd.S_reads' HO164.out).2.1); rintro e w' ⟨rfl, ⟨nd, rfl⟩⟩; (try exact zd))); try go_wp2_with (first | (go_at_call 21; (with_reducible refine (laws_rows5.calls kj86 _ _ t157 _ _ t161 true _ ?side1 ?side2 ?side3 ?side4 A114.out).mono ?_); (case side1 => exact zC (Kd.S_reads' HO160.out).2.2); (case side2 => exact (Kd.S_reads' HO160.out).2.1); (case side3 => exact zC (Kd.S_reads' HO164.out).2.2); (case side4 => exact (Kd.S_reads' HO164.out).2.1); rintro e w' ⟨rfl, ⟨nd, rfl⟩⟩; (try exact zd))))
                                 go_meet
                                 case rel => exact ⟨_, ((t165 != t167)), zF, H', ⟨by have := HJ10.out; have := HJ39.out; have := HJ76.out; have := HJ86.out; first | omega | exact Nat.le_refl _⟩, ⟨zR HO156.out⟩, ⟨by (with_reducible repeat (first | apply Kd.S_alloc | apply Kd.S_drewN | apply Kd.S_drew)); exact Kd.S_mono HO160.out (fun _ hk => hk.1.2)⟩, ⟨zB⟩⟩
                               · rw [if_neg c116] at H
                                 have c116b0 : (t166 == t168) = false := beq_eq_false_iff_ne.mpr c116
                                 have c116b1 : (t166 != t168) = true := bne_iff_ne.mpr c116
                                 have H' := Aside0.mk H
                                 clear H
                                 obtain ⟨Ao119, co119, eo119⟩ := Kd.S_slice HO160.out
                                 subst eo119
                                 obtain ⟨Ao120, co120, eo120⟩ := Kd.S_slice HO164.out
                                 subst eo120
                                 go_wp2_with (first | (go_at_call 21; (with_reducible refine (laws_rows5.calls kj86 _ _ t157 _ _ t161 true _ ?side1 ?side2 ?side3 ?side4 A114.out).mono ?_); (case side1 => exact zC (Kd.S_reads' HO160.out).2.2); (case side2 => exact (Kd.S_reads' HO160.out).2.1); (case side3 => exact zC (Kd.S_reads' HO164.out).2.2); (case side4 => exact (Kd.S_reads' HO164.out).2.1); rintro e w' ⟨rfl, ⟨nd, rfl⟩⟩; (try exact zd)))
                                 repeat (go_quiet (first | (go_at_call 21; (with_reducible refine (laws_rows5.calls kj86 _ _ t157 _ _ t161 true _ ?side1 ?side2 ?side3 ?side4 A114.out).mono ?_); (case side1 => exact zC (Kd.S_reads' HO160.out).2.2); (case side2 => exact (Kd.S_reads' HO160.out).2.1); (case side3 => exact zC (Kd.S_reads' HO164.out).2.2); (case side4 => exact (Kd.S_reads' HO164.out).2.1); rintro e w' ⟨rfl, ⟨nd, rfl⟩⟩; (try exact zd))); try go_wp2_with (first | (go_at_call 21; (with_reducible refine (laws_rows5.calls kj86 _ _ t157 _ _ t161 true _ ?side1 ?side2 ?side3 ?side4 A114.out).mono ?_); (case side1 => exact zC (Kd.S_reads' HO160.out).2.2); (case side2 => exact (Kd.S_reads' HO160.out).2.1); (case side3 => exact zC (Kd.S_reads' HO164.out).2.2); (case side4 => exact (Kd.S_reads' HO164.out).2.1); rintro e w' ⟨rfl, ⟨nd, rfl⟩⟩; (try exact zd))))
                                 go_meet
                                 case rel => exact ⟨_, (true), zF, H', ⟨by have := HJ10.out; have := HJ39.out; have := HJ76.out; have := HJ86.out; first | omega | exact Nat.le_refl _⟩, ⟨zR HO156.out⟩, ⟨by (with_reducible repeat (first | apply Kd.S_alloc | apply Kd.S_drewN | apply Kd.S_drew)); exact Kd.S_mono HO160.out (fun _ hk => hk.1.2)⟩, ⟨zB⟩⟩
                             · replace c115 := Bool.eq_false_iff.mpr c115
                               subst c115
                               have H1 : (laws_FnExchanges.j5 kj86 l0 t154 t157 t158 true) = some r := by rw [if_neg (show ¬ (false = true) by decide)] at H; exact H
                               clear H
                               have H := H1
                               clear H1
                               have H' := Aside0.mk H
                               clear H
                               obtain ⟨Ao121, co121, eo121⟩ := Kd.S_slice HO160.out
                               subst eo121
                               obtain ⟨Ao122, co122, eo122⟩ := Kd.S_slice HO164.out
                               subst eo122
                               go_wp2_with (first | (go_at_call 21; (with_reducible refine (laws_rows5.calls kj86 _ _ t157 _ _ t161 false _ ?side1 ?side2 ?side3 ?side4 A114.out).mono ?_); (case side1 => exact zC (Kd.S_reads' HO160.out).2.2); (case side2 => exact (Kd.S_reads' HO160.out).2.1); (case side3 => exact zC (Kd.S_reads' HO164.out).2.2); (case side4 => exact (Kd.S_reads' HO164.out).2.1); rintro e w' ⟨rfl, ⟨nd, rfl⟩⟩; (try exact zd)))
                               repeat (go_quiet (first | (go_at_call 21; (with_reducible refine (laws_rows5.calls kj86 _ _ t157 _ _ t161 false _ ?side1 ?side2 ?side3 ?side4 A114.out).mono ?_); (case side1 => exact zC (Kd.S_reads' HO160.out).2.2); (case side2 => exact (Kd.S_reads' HO160.out).2.1); (case side3 => exact zC (Kd.S_reads' HO164.out).2.2); (case side4 => exact (Kd.S_reads' HO164.out).2.1); rintro e w' ⟨rfl, ⟨nd, rfl⟩⟩; (try exact zd))); try go_wp2_with (first | (go_at_call 21; (with_reducible refine (laws_rows5.calls kj86 _ _ t157 _ _ t161 false _ ?side1 ?side2 ?side3 ?side4 A114.out).mono ?_); (case side1 => exact zC (Kd.S_reads' HO160.out).2.2); (case side2 => exact (Kd.S_reads' HO160.out).2.1); (case side3 => exact zC (Kd.S_reads' HO164.out).2.2); (case side4 => exact (Kd.S_reads' HO164.out).2.1); rintro e w' ⟨rfl, ⟨nd, rfl⟩⟩; (try exact zd))))
                               go_meet
                               case rel => exact ⟨_, (true), zF, H', ⟨by have := HJ10.out; have := HJ39.out; have := HJ76.out; have := HJ86.out; first | omega | exact Nat.le_refl _⟩, ⟨zR HO156.out⟩, ⟨by (with_reducible repeat (first | apply Kd.S_alloc | apply Kd.S_drewN | apply Kd.S_drew)); exact Kd.S_mono HO160.out (fun _ hk => hk.1.2)⟩, ⟨zB⟩⟩
                           · rw [if_neg c113] at H
                             have c113b0 : (t158 == t162) = false := beq_eq_false_iff_ne.mpr c113
                             have c113b1 : (t158 != t162) = true := bne_iff_ne.mpr c113
                             (first | rw [c113b0] | (simp only [i64_w, i32_w]; rw [c113b0]) | skip)
                             have H' := Aside0.mk H
                             clear H
                             go_wp2
                             repeat (go_quiet (fail); try go_wp2)
                             go_meet
                             case rel => exact ⟨_, (true), zF, H', ⟨by have := HJ10.out; have := HJ39.out; have := HJ76.out; have := HJ86.out; first | omega | exact Nat.le_refl _⟩, ⟨zR HO156.out⟩, ⟨by (with_reducible repeat (first | apply Kd.S_alloc | apply Kd.S_drewN | apply Kd.S_drew)); exact Kd.S_mono HO160.out (fun _ hk => hk.1.2)⟩, ⟨zB⟩⟩
                        case rest =>
                          as_aux_lemma =>
                           clear HC106
                           try clear c3
                           try clear c39
                           try clear c86
                           obtain ⟨kq, x271_105, rfl, HA, HJ105, HO_36, HO_37, HB⟩ := hcut
                           cases kq with
                           | zero => exact absurd HA.out (by simp [laws_FnExchanges.j5])
                           | succ kj105 =>
                             have H := HA.out
                             clear HA
                             simp only [laws_FnExchanges.j5] at H
                             by_cases c123 : x271_105 = true
                             · subst c123
                               have H1 : (some false) = some r := by rw [if_pos rfl] at H; exact H
                               clear H
                               have H := H1
                               clear H1
                               obtain rfl := Option.some.inj H
                               go_wp2
                               repeat (go_quiet (fail); try go_wp2)
                               go_ret
                               exact ⟨zE, zB⟩
                             · replace c123 := Bool.eq_false_iff.mpr c123
                               subst c123
                               have H1 : (if t158 = 0 then ((impl_GreatestWaits.f kj105 t154).bind fun bt170 => (if bt170.2 = 0 then (laws_FnExchanges.j6 kj105 l0 t157 bt170.1 ((bt170.1.length : Int) != (t157.length : Int))) else (laws_FnExchanges.j6 kj105 l0 t157 bt170.1 true))) else ((spec_DrawSquaresOf.f kj105 l0).bind fun t188 => ((impl_SquaresOf.f kj105 t188).bind fun bt191 => ((spec_SquaresOf.f kj105 t188).bind fun bt193 => (if bt191.2 = bt193.2 then (some (bt191.1 == bt193.1)) else (some false)))))) = some r := by rw [if_neg (show ¬ (false = true) by decide)] at H; exact H
                               clear H
                               have H := H1
                               clear H1
                               by_cases c124 : t158 = 0
                               · rw [if_pos c124] at H
                                 have c124b0 : (t158 == 0) = true := beq_iff_eq.mpr c124
                                 have c124b1 : (t158 != 0) = false := bne_eq_false_iff_eq.mpr c124
                                 clear c124
                                 replace H := Option.bind_eq_some_iff.mp H
                                 obtain ⟨⟨t170, t171⟩, A1250, H⟩ := H
                                 replace H : (if t171 = 0 then (laws_FnExchanges.j6 kj105 l0 t157 t170 ((t170.length : Int) != (t157.length : Int))) else (laws_FnExchanges.j6 kj105 l0 t157 t170 true)) = some r := H
                                 have A125 := Aside0.mk A1250
                                 clear A1250
                                 have HC126 := Aside0.mk H
                                 clear H
                                 go_upto_region 40 with (first | (go_at_call 22; (with_reducible refine (impl_GreatestWaits.calls kj105 _ _ t154 t170 t171 _ ?side1 ?side2 A125.out).mono ?_); (case side1 => exact zC (Kd.R_reads' HO_36.out).2.2); (case side2 => exact (Kd.R_reads' HO_36.out).2.1); rintro e w127 ⟨v172, rfl, ho0, hb⟩; have n_ := y4 (Kd.R_elder' (zR HO_36.out) (Kd.R_base ho0) hb) (Kd.S_elder' (by (with_reducible repeat (first | apply Kd.S_alloc | apply Kd.S_drewN | apply Kd.S_drew)); exact HO_37.out) (Kd.R_base ho0) hb) (Kd.R_lower (Kd.R_new' ho0 (Kd.R_lt (zR HO_36.out))) (below_size (zB))) (below_step (zB) hb); clear HO_36 HO_37 HB; obtain ⟨HO_36, HO_37, HO173, HB⟩ := n_; (try clear hb); (try clear hb2); (try clear hk); (try clear hi); (try clear ho0)))
                                 repeat (go_quiet (fail); go_upto_region 40 with (fail))
                                 (try simp only [Act.put, List.setIfInBounds_toArray, List.set_cons_zero, List.set_cons_succ])
                                 go_cut [287] (fun v287 wc => ∃ (kq : Nat) (x287_125 : Bool), v287 = .bool x287_125 ∧ Aside0 (laws_FnExchanges.j6 kq l0 t157 t170 x287_125 = some r) ∧ Aside0 (kq ≤ kj105) ∧ Aside0 (Kd.S (Kd.slice 2 (Kd.int .i64)) 24 wc w.heap.size (fun k_ => some k_ ≠ (v172 : Value).ownBlock) v159 t157) ∧ Aside0 (Kd.R (Kd.int .i64) 2 wc w.heap.size (fun _ => True) v172 t170) ∧ Aside0 (Below w.heap.size w wc))
                                 case first =>
                                   as_aux_lemma =>
                                    have H := HC126.out
                                    clear HC126
                                    by_cases c128 : t171 = 0
                                    · rw [if_pos c128] at H
                                      have c128b0 : (t171 == 0) = true := beq_iff_eq.mpr c128
                                      have c128b1 : (t171 != 0) = false := bne_eq_false_iff_eq.mpr c128
                                      clear c128
                                      (first | rw [c128b0] | (simp only [i64_w, i32_w]; rw [c128b0]) | skip)
                                      have H' := Aside0.mk H
                                      clear H
                                      obtain ⟨Ao129, co129, eo129⟩ := Kd.R_slice HO173.out
                                      subst eo129
                                      obtain ⟨Ao130, co130, eo130⟩ := Kd.S_slice HO_37.out
                                      subst eo130
                                      go_wp2
                                      repeat (go_quiet (fail); try go_wp2)
                                      go_meet
                                      case rel => exact ⟨_, (((t170.length : Int) != (t157.length : Int))), zF, H', ⟨by have := HJ10.out; have := HJ39.out; have := HJ76.out; have := HJ86.out; have := HJ105.out; first | omega | exact Nat.le_refl _⟩, ⟨by (with_reducible repeat (first | apply Kd.S_alloc | apply Kd.S_drewN | apply Kd.S_drew)); exact Kd.S_mono HO_37.out (fun _ hk => hk.2)⟩, ⟨by refine zR ?_; exact Kd.R_mono HO173.out (fun _ hk => trivial)⟩, ⟨zB⟩⟩
                                    · rw [if_neg c128] at H
                                      have c128b0 : (t171 == 0) = false := beq_eq_false_iff_ne.mpr c128
                                      have c128b1 : (t171 != 0) = true := bne_iff_ne.mpr c128
                                      (first | rw [c128b0] | (simp only [i64_w, i32_w]; rw [c128b0]) | skip)
                                      have H' := Aside0.mk H
                                      clear H
                                      go_wp2
                                      repeat (go_quiet (fail); try go_wp2)
                                      go_meet
                                      case rel => exact ⟨_, (true), zF, H', ⟨by have := HJ10.out; have := HJ39.out; have := HJ76.out; have := HJ86.out; have := HJ105.out; first | omega | exact Nat.le_refl _⟩, ⟨by (with_reducible repeat (first | apply Kd.S_alloc | apply Kd.S_drewN | apply Kd.S_drew)); exact Kd.S_mono HO_37.out (fun _ hk => hk.2)⟩, ⟨by refine zR ?_; exact Kd.R_mono HO173.out (fun _ hk => trivial)⟩, ⟨zB⟩⟩
                                 case rest =>
                                   as_aux_lemma =>
                                    clear HC126
                                    try clear c3
                                    try clear c39
                                    try clear c86
                                    try clear c123
                                    try clear c124
                                    try clear c124b0
                                    try clear c124b1
                                    obtain ⟨kq, x287_125, rfl, HA, HJ125, HO_37, HO_45, HB⟩ := hcut
                                    cases kq with
                                    | zero => exact absurd HA.out (by simp [laws_FnExchanges.j6])
                                    | succ kj125 =>
                                      have H := HA.out
                                      clear HA
                                      simp only [laws_FnExchanges.j6] at H
                                      by_cases c131 : x287_125 = true
                                      · subst c131
                                        have H1 : (some false) = some r := by rw [if_pos rfl] at H; exact H
                                        clear H
                                        have H := H1
                                        clear H1
                                        obtain rfl := Option.some.inj H
                                        go_wp2
                                        repeat (go_quiet (fail); try go_wp2)
                                        go_ret
                                        exact ⟨zE, zB⟩
                                      · replace c131 := Bool.eq_false_iff.mpr c131
                                        subst c131
                                        have H1 : (laws_FnExchanges.l0 kj125 l0 t157 t170 (t170.length : Int) 0) = some r := by rw [if_neg (show ¬ (false = true) by decide)] at H; exact H
                                        clear H
                                        have H := H1
                                        clear H1
                                        have H' := Aside0.mk H
                                        clear H
                                        obtain ⟨Ao132, co132, eo132⟩ := Kd.R_slice HO_45.out
                                        subst eo132
                                        go_wp2
                                        repeat (go_quiet (fail); try go_wp2)
                                        go_loopg [290] kj125 (fun kq v290 w' => ∃ (x290_7 : Int), v290 = .int .i64 x290_7 ∧ Aside0 (laws_FnExchanges.l0 kq l0 t157 t170 (t170.length : Int) x290_7 = some r) ∧ Aside0 (kq ≤ kj125) ∧ Aside0 (Kd.S (Kd.slice 2 (Kd.int .i64)) 24 w' w.heap.size (fun k_ => some k_ ≠ ((.slice Ao132 t170.length co132) : Value).ownBlock) v159 t157) ∧ Aside0 (Kd.R (Kd.int .i64) 2 w' w.heap.size (fun _ => True) (.slice Ao132 t170.length co132) t170) ∧ Aside0 (Below w.heap.size w w'))
                                        case atStart => exact ⟨(0), zF, H', ⟨Nat.le_refl _⟩, ⟨by (with_reducible repeat (first | apply Kd.S_alloc | apply Kd.S_drewN | apply Kd.S_drew)); exact HO_37.out⟩, ⟨zR HO_45.out⟩, ⟨zB⟩⟩
                                        case round =>
                                          as_aux_lemma =>
                                           clear H'
                                           try clear c3
                                           try clear c39
                                           try clear c86
                                           try clear c123
                                           try clear c124
                                           try clear c124b0
                                           try clear c124b1
                                           try clear c131
                                           obtain ⟨x290_7, rfl, HA, HK7, HO_37, HO_45, HB⟩ := hrel
                                           cases gk with
                                           | zero => exact absurd HA.out (by simp [laws_FnExchanges.l0])
                                           | succ k7 =>
                                             have H := HA.out
                                             clear HA
                                             simp only [laws_FnExchanges.l0] at H
                                             by_cases c133 : x290_7 < (t170.length : Int)
                                             · rw [if_pos c133] at H
                                               have c133b0 : decide (x290_7 < (t170.length : Int)) = true := decide_eq_true c133
                                               clear c133
                                               by_cases c134 : 0 ≤ x290_7
                                               · rw [if_pos c134] at H
                                                 have c134b0 : decide (0 ≤ x290_7) = true := decide_eq_true c134
                                                 clear c134
                                                 by_cases c135 : x290_7 < (t157.length : Int)
                                                 · rw [if_pos c135] at H
                                                   have c135b0 : decide (x290_7 < (t157.length : Int)) = true := decide_eq_true c135
                                                   clear c135
                                                   by_cases c136 : 1 < ((rd_L2 t157 x290_7).length : Int)
                                                   · rw [if_pos c136] at H
                                                     have c136b0 : decide (1 < ((rd_L2 t157 x290_7).length : Int)) = true := decide_eq_true c136
                                                     have c136b1 : decide (1 < (rd_L2 t157 x290_7).length) = true := decide_eq_true (by omega)
                                                     clear c136
                                                     by_cases c137 : x290_7 < (t170.length : Int)
                                                     · rw [if_pos c137] at H
                                                       have c137b0 : decide (x290_7 < (t170.length : Int)) = true := decide_eq_true c137
                                                       clear c137
                                                       by_cases c138 : (rd (rd_L2 t157 x290_7) 1) = (rd t170 x290_7)
                                                       · rw [if_pos c138] at H
                                                         have c138b0 : ((rd (rd_L2 t157 x290_7) 1) == (rd t170 x290_7)) = true := beq_iff_eq.mpr c138
                                                         have c138b1 : ((rd (rd_L2 t157 x290_7) 1) != (rd t170 x290_7)) = false := bne_eq_false_iff_eq.mpr c138
                                                         clear c138
                                                         by_cases c139 : 0 < ((rd_L2 t157 x290_7).length : Int)
                                                         · rw [if_pos c139] at H
                                                           have c139b0 : decide (0 < ((rd_L2 t157 x290_7).length : Int)) = true := decide_eq_true c139
                                                           have c139b1 : decide (0 < (rd_L2 t157 x290_7).length) = true := decide_eq_true (by omega)
                                                           clear c139
                                                           by_cases c140 : (rd (rd_L2 t157 x290_7) 0) > (rd (rd_L2 t157 x290_7) 1)
                                                           · rw [if_pos c140] at H
                                                             have c140b0 : decide ((rd (rd_L2 t157 x290_7) 1) < (rd (rd_L2 t157 x290_7) 0)) = true := decide_eq_true c140
                                                             clear c140
                                                             obtain rfl := Option.some.inj H
                                                             obtain ⟨Ao141, co141, eo141⟩ := Kd.S_slice HO_37.out
                                                             subst eo141
                                                             have p174 : 0 ≤ (x290_7 : Int) := zD
                                                             have q174 : x290_7 < (t157.length : Int) := zD
                                                             obtain ⟨ad174, A174_0, c174_0, e174, hx174_0, hl174_0, hi174_0⟩ := at_L2 (Kd.S_reads' HO_37.out).2.2 x290_7 p174 q174
                                                             cases e174
                                                             obtain ⟨ce174, hce174, hMe174, hcc174⟩ := Kd.S_get HO_37.out [] x290_7 p174 (by first | exact q174 | exact zD | (have e_ := (Kd.S_reads' HO_37.out).1; omega))
                                                             obtain ⟨ve174_0, rfl, ge174_0⟩ := hMe174
                                                             have hv174_0 := hcc174 0 _ rfl
                                                             rw [Nat.add_zero, show ((Kd.slice 2 (Kd.int .i64))).sz = 1 from rfl, Nat.mul_one] at hv174_0
                                                             replace hv174_0 := Option.some.inj (hv174_0.symm.trans hx174_0)
                                                             rw [hv174_0] at ge174_0
                                                             have HL174_0 := Aside0.mk (show Kd.R (Kd.int .i64) 2 _ _ _ _ (rd_L2 t157 x290_7) from ge174_0)
                                                             clear hv174_0 ge174_0
                                                             clear hcc174 hce174
                                                             have HR174_0 := Aside0.mk hi174_0
                                                             have HC174_0 := Aside0.mk hl174_0
                                                             clear hi174_0 hl174_0
                                                             replace p174 := eq_true p174
                                                             replace q174 := eq_true q174
                                                             have p175 : 0 ≤ (1 : Int) := (by omega)
                                                             have q175 : 1 < ((rd_L2 t157 x290_7).length : Int) := zD
                                                             obtain ⟨ad175, e175, hx175_0⟩ := Kd.at_int (by repeat (first | (with_reducible exact HR174_0.out) | (with_reducible refine Kd.C_alloc ?_ _) | (with_reducible refine Kd.C_drewN ?_ _) | (with_reducible refine Kd.C_drew ?_) | exact HR174_0.out)) 1 p175 q175
                                                             cases e175
                                                             (try simp only [show (1 : Int).toNat = 1 from rfl, Nat.reduceMul, Nat.reduceEqDiff, Go.Addr.add, ↓reduceIte] at hx175_0)
                                                             have qi175 : (1 < (rd_L2 t157 x290_7).length) = True := eq_true (by omega)
                                                             (try rw [show ((1 : Int)).toNat = 1 from rfl] at hx175_0)
                                                             replace p175 := eq_true p175
                                                             replace q175 := eq_true q175
                                                             have p176 : 0 ≤ (x290_7 : Int) := zD
                                                             have q176 : x290_7 < (t170.length : Int) := zD
                                                             obtain ⟨ad176, e176, hx176_0⟩ := Kd.at_int (Kd.R_reads' HO_45.out).2.2 x290_7 p176 q176
                                                             cases e176
                                                             replace p176 := eq_true p176
                                                             replace q176 := eq_true q176
                                                             have p177 : 0 ≤ (x290_7 : Int) := zD
                                                             have q177 : x290_7 < (t157.length : Int) := zD
                                                             obtain ⟨ad177, A177_0, c177_0, e177, hx177_0, hl177_0, hi177_0⟩ := at_L2 (Kd.S_reads' HO_37.out).2.2 x290_7 p177 q177
                                                             obtain rfl : ad174 = ad177 := (by injection e177)
                                                             obtain ⟨ce177, hce177, hMe177, hcc177⟩ := Kd.S_get HO_37.out [] x290_7 p177 (by first | exact q177 | exact zD | (have e_ := (Kd.S_reads' HO_37.out).1; omega))
                                                             obtain ⟨ve177_0, rfl, ge177_0⟩ := hMe177
                                                             have hv177_0 := hcc177 0 _ rfl
                                                             rw [Nat.add_zero, show ((Kd.slice 2 (Kd.int .i64))).sz = 1 from rfl, Nat.mul_one] at hv177_0
                                                             replace hv177_0 := Option.some.inj (hv177_0.symm.trans hx177_0)
                                                             rw [hv177_0] at ge177_0
                                                             have HL177_0 := Aside0.mk (show Kd.R (Kd.int .i64) 2 _ _ _ _ (rd_L2 t157 x290_7) from ge177_0)
                                                             clear hv177_0 ge177_0
                                                             clear hcc177 hce177
                                                             have HR177_0 := Aside0.mk hi177_0
                                                             have HC177_0 := Aside0.mk hl177_0
                                                             clear hi177_0 hl177_0
                                                             replace p177 := eq_true p177
                                                             replace q177 := eq_true q177
                                                             have ea_ := Option.some.inj (hx174_0.symm.trans hx177_0)
                                                             injection ea_ with ea_ en_ ec_
                                                             subst ea_
                                                             subst ec_
                                                             clear en_
                                                             have p178 : 0 ≤ (0 : Int) := (by omega)
                                                             have q178 : 0 < ((rd_L2 t157 x290_7).length : Int) := zD
                                                             obtain ⟨ad178, e178, hx178_0⟩ := Kd.at_int (by repeat (first | (with_reducible exact HR177_0.out) | (with_reducible refine Kd.C_alloc ?_ _) | (with_reducible refine Kd.C_drewN ?_ _) | (with_reducible refine Kd.C_drew ?_) | exact HR177_0.out)) 0 p178 q178
                                                             cases e178
                                                             have qi178 : (0 < (rd_L2 t157 x290_7).length) = True := eq_true (by omega)
                                                             (try rw [show ((0 : Int)).toNat = 0 from rfl] at hx178_0)
                                                             (try rw [Addr.add_zero'] at hx178_0)
                                                             replace p178 := eq_true p178
                                                             replace q178 := eq_true q178
                                                             have p179 : 0 ≤ (x290_7 : Int) := zD
                                                             have q179 : x290_7 < (t157.length : Int) := zD
                                                             obtain ⟨ad179, A179_0, c179_0, e179, hx179_0, hl179_0, hi179_0⟩ := at_L2 (Kd.S_reads' HO_37.out).2.2 x290_7 p179 q179
                                                             obtain rfl : ad174 = ad179 := (by injection e179)
                                                             obtain ⟨ce179, hce179, hMe179, hcc179⟩ := Kd.S_get HO_37.out [] x290_7 p179 (by first | exact q179 | exact zD | (have e_ := (Kd.S_reads' HO_37.out).1; omega))
                                                             obtain ⟨ve179_0, rfl, ge179_0⟩ := hMe179
                                                             have hv179_0 := hcc179 0 _ rfl
                                                             rw [Nat.add_zero, show ((Kd.slice 2 (Kd.int .i64))).sz = 1 from rfl, Nat.mul_one] at hv179_0
                                                             replace hv179_0 := Option.some.inj (hv179_0.symm.trans hx179_0)
                                                             rw [hv179_0] at ge179_0
                                                             have HL179_0 := Aside0.mk (show Kd.R (Kd.int .i64) 2 _ _ _ _ (rd_L2 t157 x290_7) from ge179_0)
                                                             clear hv179_0 ge179_0
                                                             clear hcc179 hce179
                                                             have HR179_0 := Aside0.mk hi179_0
                                                             have HC179_0 := Aside0.mk hl179_0
                                                             clear hi179_0 hl179_0
                                                             replace p179 := eq_true p179
                                                             replace q179 := eq_true q179
                                                             have ea_ := Option.some.inj (hx174_0.symm.trans hx179_0)
                                                             injection ea_ with ea_ en_ ec_
                                                             subst ea_
                                                             subst ec_
                                                             clear en_
                                                             have p180 : 0 ≤ (1 : Int) := (by omega)
                                                             have q180 : 1 < ((rd_L2 t157 x290_7).length : Int) := zD
                                                             obtain ⟨ad180, e180, hx180_0⟩ := Kd.at_int (by repeat (first | (with_reducible exact HR179_0.out) | (with_reducible refine Kd.C_alloc ?_ _) | (with_reducible refine Kd.C_drewN ?_ _) | (with_reducible refine Kd.C_drew ?_) | exact HR179_0.out)) 1 p180 q180
                                                             cases e180
                                                             (try simp only [show (1 : Int).toNat = 1 from rfl, Nat.reduceMul, Nat.reduceEqDiff, Go.Addr.add, ↓reduceIte] at hx180_0)
                                                             have qi180 : (1 < (rd_L2 t157 x290_7).length) = True := eq_true (by omega)
                                                             (try rw [show ((1 : Int)).toNat = 1 from rfl] at hx180_0)
                                                             replace p180 := eq_true p180
                                                             replace q180 := eq_true q180
                                                             go_wp2
                                                             repeat (go_quiet (fail); try go_wp2)
                                                             go_ret
                                                             exact ⟨zE, zB⟩
                                                           · rw [if_neg c140] at H
                                                             have c140b0 : decide ((rd (rd_L2 t157 x290_7) 1) < (rd (rd_L2 t157 x290_7) 0)) = false := decide_eq_false c140
                                                             clear c140
                                                             have H' := Aside0.mk H
                                                             clear H
                                                             obtain ⟨Ao142, co142, eo142⟩ := Kd.S_slice HO_37.out
                                                             subst eo142
                                                             have p174 : 0 ≤ (x290_7 : Int) := zD
                                                             have q174 : x290_7 < (t157.length : Int) := zD
                                                             obtain ⟨ad174, A174_0, c174_0, e174, hx174_0, hl174_0, hi174_0⟩ := at_L2 (Kd.S_reads' HO_37.out).2.2 x290_7 p174 q174
                                                             cases e174
                                                             obtain ⟨ce174, hce174, hMe174, hcc174⟩ := Kd.S_get HO_37.out [] x290_7 p174 (by first | exact q174 | exact zD | (have e_ := (Kd.S_reads' HO_37.out).1; omega))
                                                             obtain ⟨ve174_0, rfl, ge174_0⟩ := hMe174
                                                             have hv174_0 := hcc174 0 _ rfl
                                                             rw [Nat.add_zero, show ((Kd.slice 2 (Kd.int .i64))).sz = 1 from rfl, Nat.mul_one] at hv174_0
                                                             replace hv174_0 := Option.some.inj (hv174_0.symm.trans hx174_0)
                                                             rw [hv174_0] at ge174_0
                                                             have HL174_0 := Aside0.mk (show Kd.R (Kd.int .i64) 2 _ _ _ _ (rd_L2 t157 x290_7) from ge174_0)
                                                             clear hv174_0 ge174_0
                                                             clear hcc174 hce174
                                                             have HR174_0 := Aside0.mk hi174_0
                                                             have HC174_0 := Aside0.mk hl174_0
                                                             clear hi174_0 hl174_0
                                                             replace p174 := eq_true p174
                                                             replace q174 := eq_true q174
                                                             have p175 : 0 ≤ (1 : Int) := (by omega)
                                                             have q175 : 1 < ((rd_L2 t157 x290_7).length : Int) := zD
                                                             obtain ⟨ad175, e175, hx175_0⟩ := Kd.at_int (by repeat (first | (with_reducible exact HR174_0.out) | (with_reducible refine Kd.C_alloc ?_ _) | (with_reducible refine Kd.C_drewN ?_ _) | (with_reducible refine Kd.C_drew ?_) | exact HR174_0.out)) 1 p175 q175
                                                             cases e175
                                                             (try simp only [show (1 : Int).toNat = 1 from rfl, Nat.reduceMul, Nat.reduceEqDiff, Go.Addr.add, ↓reduceIte] at hx175_0)
                                                             have qi175 : (1 < (rd_L2 t157 x290_7).length) = True := eq_true (by omega)
                                                             (try rw [show ((1 : Int)).toNat = 1 from rfl] at hx175_0)
                                                             replace p175 := eq_true p175
                                                             replace q175 := eq_true q175
                                                             have p176 : 0 ≤ (x290_7 : Int) := zD
                                                             have q176 : x290_7 < (t170.length : Int) := zD
                                                             obtain ⟨ad176, e176, hx176_0⟩ := Kd.at_int (Kd.R_reads' HO_45.out).2.2 x290_7 p176 q176
                                                             cases e176
                                                             replace p176 := eq_true p176
                                                             replace q176 := eq_true q176
                                                             have p177 : 0 ≤ (x290_7 : Int) := zD
                                                             have q177 : x290_7 < (t157.length : Int) := zD
                                                             obtain ⟨ad177, A177_0, c177_0, e177, hx177_0, hl177_0, hi177_0⟩ := at_L2 (Kd.S_reads' HO_37.out).2.2 x290_7 p177 q177
                                                             obtain rfl : ad174 = ad177 := (by injection e177)
                                                             obtain ⟨ce177, hce177, hMe177, hcc177⟩ := Kd.S_get HO_37.out [] x290_7 p177 (by first | exact q177 | exact zD | (have e_ := (Kd.S_reads' HO_37.out).1; omega))
                                                             obtain ⟨ve177_0, rfl, ge177_0⟩ := hMe177
                                                             have hv177_0 := hcc177 0 _ rfl
                                                             rw [Nat.add_zero, show ((Kd.slice 2 (Kd.int .i64))).sz = 1 from rfl, Nat.mul_one] at hv177_0
                                                             replace hv177_0 := Option.some.inj (hv177_0.symm.trans hx177_0)
                                                             rw [hv177_0] at ge177_0
                                                             have HL177_0 := Aside0.mk (show Kd.R (Kd.int .i64) 2 _ _ _ _ (rd_L2 t157 x290_7) from ge177_0)
                                                             clear hv177_0 ge177_0
                                                             clear hcc177 hce177
                                                             have HR177_0 := Aside0.mk hi177_0
                                                             have HC177_0 := Aside0.mk hl177_0
                                                             clear hi177_0 hl177_0
                                                             replace p177 := eq_true p177
                                                             replace q177 := eq_true q177
                                                             have ea_ := Option.some.inj (hx174_0.symm.trans hx177_0)
                                                             injection ea_ with ea_ en_ ec_
                                                             subst ea_
                                                             subst ec_
                                                             clear en_
                                                             have p178 : 0 ≤ (0 : Int) := (by omega)
                                                             have q178 : 0 < ((rd_L2 t157 x290_7).length : Int) := zD
                                                             obtain ⟨ad178, e178, hx178_0⟩ := Kd.at_int (by repeat (first | (with_reducible exact HR177_0.out) | (with_reducible refine Kd.C_alloc ?_ _) | (with_reducible refine Kd.C_drewN ?_ _) | (with_reducible refine Kd.C_drew ?_) | exact HR177_0.out)) 0 p178 q178
                                                             cases e178
                                                             have qi178 : (0 < (rd_L2 t157 x290_7).length) = True := eq_true (by omega)
                                                             (try rw [show ((0 : Int)).toNat = 0 from rfl] at hx178_0)
                                                             (try rw [Addr.add_zero'] at hx178_0)
                                                             replace p178 := eq_true p178
                                                             replace q178 := eq_true q178
                                                             have p179 : 0 ≤ (x290_7 : Int) := zD
                                                             have q179 : x290_7 < (t157.length : Int) := zD
                                                             obtain ⟨ad179, A179_0, c179_0, e179, hx179_0, hl179_0, hi179_0⟩ := at_L2 (Kd.S_reads' HO_37.out).2.2 x290_7 p179 q179
                                                             obtain rfl : ad174 = ad179 := (by injection e179)
                                                             obtain ⟨ce179, hce179, hMe179, hcc179⟩ := Kd.S_get HO_37.out [] x290_7 p179 (by first | exact q179 | exact zD | (have e_ := (Kd.S_reads' HO_37.out).1; omega))
                                                             obtain ⟨ve179_0, rfl, ge179_0⟩ := hMe179
                                                             have hv179_0 := hcc179 0 _ rfl
                                                             rw [Nat.add_zero, show ((Kd.slice 2 (Kd.int .i64))).sz = 1 from rfl, Nat.mul_one] at hv179_0
                                                             replace hv179_0 := Option.some.inj (hv179_0.symm.trans hx179_0)
                                                             rw [hv179_0] at ge179_0
                                                             have HL179_0 := Aside0.mk (show Kd.R (Kd.int .i64) 2 _ _ _ _ (rd_L2 t157 x290_7) from ge179_0)
                                                             clear hv179_0 ge179_0
                                                             clear hcc179 hce179
                                                             have HR179_0 := Aside0.mk hi179_0
                                                             have HC179_0 := Aside0.mk hl179_0
                                                             clear hi179_0 hl179_0
                                                             replace p179 := eq_true p179
                                                             replace q179 := eq_true q179
                                                             have ea_ := Option.some.inj (hx174_0.symm.trans hx179_0)
                                                             injection ea_ with ea_ en_ ec_
                                                             subst ea_
                                                             subst ec_
                                                             clear en_
                                                             have p180 : 0 ≤ (1 : Int) := (by omega)
                                                             have q180 : 1 < ((rd_L2 t157 x290_7).length : Int) := zD
                                                             obtain ⟨ad180, e180, hx180_0⟩ := Kd.at_int (by repeat (first | (with_reducible exact HR179_0.out) | (with_reducible refine Kd.C_alloc ?_ _) | (with_reducible refine Kd.C_drewN ?_ _) | (with_reducible refine Kd.C_drew ?_) | exact HR179_0.out)) 1 p180 q180
                                                             cases e180
                                                             (try simp only [show (1 : Int).toNat = 1 from rfl, Nat.reduceMul, Nat.reduceEqDiff, Go.Addr.add, ↓reduceIte] at hx180_0)
                                                             have qi180 : (1 < (rd_L2 t157 x290_7).length) = True := eq_true (by omega)
                                                             (try rw [show ((1 : Int)).toNat = 1 from rfl] at hx180_0)
                                                             replace p180 := eq_true p180
                                                             replace q180 := eq_true q180
                                                             go_wp2
                                                             repeat (go_quiet (fail); try go_wp2)
                                                             go_roundg k7
                                                             case measure => have := HJ10.out; have := HJ39.out; have := HJ76.out; have := HJ86.out; have := HJ105.out; have := HJ125.out; have := HK7.out; omega
                                                             case rel => exact ⟨(wrap64 (x290_7 + 1)), zF, H', ⟨by have := HJ10.out; have := HJ39.out; have := HJ76.out; have := HJ86.out; have := HJ105.out; have := HJ125.out; have := HK7.out; omega⟩, ⟨by (with_reducible repeat (first | apply Kd.S_alloc | apply Kd.S_drewN | apply Kd.S_drew)); exact HO_37.out⟩, ⟨zR HO_45.out⟩, ⟨zB⟩⟩
                                                         · rw [if_neg c139] at H
                                                           exact absurd H (by simp)
                                                       · rw [if_neg c138] at H
                                                         have c138b0 : ((rd (rd_L2 t157 x290_7) 1) == (rd t170 x290_7)) = false := beq_eq_false_iff_ne.mpr c138
                                                         have c138b1 : ((rd (rd_L2 t157 x290_7) 1) != (rd t170 x290_7)) = true := bne_iff_ne.mpr c138
                                                         obtain rfl := Option.some.inj H
                                                         obtain ⟨Ao143, co143, eo143⟩ := Kd.S_slice HO_37.out
                                                         subst eo143
                                                         have p174 : 0 ≤ (x290_7 : Int) := zD
                                                         have q174 : x290_7 < (t157.length : Int) := zD
                                                         obtain ⟨ad174, A174_0, c174_0, e174, hx174_0, hl174_0, hi174_0⟩ := at_L2 (Kd.S_reads' HO_37.out).2.2 x290_7 p174 q174
                                                         cases e174
                                                         obtain ⟨ce174, hce174, hMe174, hcc174⟩ := Kd.S_get HO_37.out [] x290_7 p174 (by first | exact q174 | exact zD | (have e_ := (Kd.S_reads' HO_37.out).1; omega))
                                                         obtain ⟨ve174_0, rfl, ge174_0⟩ := hMe174
                                                         have hv174_0 := hcc174 0 _ rfl
                                                         rw [Nat.add_zero, show ((Kd.slice 2 (Kd.int .i64))).sz = 1 from rfl, Nat.mul_one] at hv174_0
                                                         replace hv174_0 := Option.some.inj (hv174_0.symm.trans hx174_0)
                                                         rw [hv174_0] at ge174_0
                                                         have HL174_0 := Aside0.mk (show Kd.R (Kd.int .i64) 2 _ _ _ _ (rd_L2 t157 x290_7) from ge174_0)
                                                         clear hv174_0 ge174_0
                                                         clear hcc174 hce174
                                                         have HR174_0 := Aside0.mk hi174_0
                                                         have HC174_0 := Aside0.mk hl174_0
                                                         clear hi174_0 hl174_0
                                                         replace p174 := eq_true p174
                                                         replace q174 := eq_true q174
                                                         have p175 : 0 ≤ (1 : Int) := (by omega)
                                                         have q175 : 1 < ((rd_L2 t157 x290_7).length : Int) := zD
                                                         obtain ⟨ad175, e175, hx175_0⟩ := Kd.at_int (by repeat (first | (with_reducible exact HR174_0.out) | (with_reducible refine Kd.C_alloc ?_ _) | (with_reducible refine Kd.C_drewN ?_ _) | (with_reducible refine Kd.C_drew ?_) | exact HR174_0.out)) 1 p175 q175
                                                         cases e175
                                                         (try simp only [show (1 : Int).toNat = 1 from rfl, Nat.reduceMul, Nat.reduceEqDiff, Go.Addr.add, ↓reduceIte] at hx175_0)
                                                         have qi175 : (1 < (rd_L2 t157 x290_7).length) = True := eq_true (by omega)
                                                         (try rw [show ((1 : Int)).toNat = 1 from rfl] at hx175_0)
                                                         replace p175 := eq_true p175
                                                         replace q175 := eq_true q175
                                                         have p176 : 0 ≤ (x290_7 : Int) := zD
                                                         have q176 : x290_7 < (t170.length : Int) := zD
                                                         obtain ⟨ad176, e176, hx176_0⟩ := Kd.at_int (Kd.R_reads' HO_45.out).2.2 x290_7 p176 q176
                                                         cases e176
                                                         replace p176 := eq_true p176
                                                         replace q176 := eq_true q176
                                                         go_wp2
                                                         repeat (go_quiet (fail); try go_wp2)
                                                         go_ret
                                                         exact ⟨zE, zB⟩
                                                     · rw [if_neg c137] at H
                                                       exact absurd H (by simp)
                                                   · rw [if_neg c136] at H
                                                     exact absurd H (by simp)
                                                 · rw [if_neg c135] at H
                                                   exact absurd H (by simp)
                                               · rw [if_neg c134] at H
                                                 exact absurd H (by simp)
                                             · rw [if_neg c133] at H
                                               have c133b0 : decide (x290_7 < (t170.length : Int)) = false := decide_eq_false c133
                                               clear c133
                                               replace H := Option.bind_eq_some_iff.mp H
                                               obtain ⟨t181, A1440, H⟩ := H
                                               replace H : ((impl_SquaresOf.f k7 t181).bind fun bt184 => ((spec_SquaresOf.f k7 t181).bind fun bt186 => (if bt184.2 = bt186.2 then (some (bt184.1 == bt186.1)) else (some false)))) = some r := H
                                               have A144 := Aside0.mk A1440
                                               clear A1440
                                               replace H := Option.bind_eq_some_iff.mp H
                                               obtain ⟨⟨t184, t185⟩, A1450, H⟩ := H
                                               replace H : ((spec_SquaresOf.f k7 t181).bind fun bt186 => (if t185 = bt186.2 then (some (t184 == bt186.1)) else (some false))) = some r := H
                                               have A145 := Aside0.mk A1450
                                               clear A1450
                                               replace H := Option.bind_eq_some_iff.mp H
                                               obtain ⟨⟨t186, t187⟩, A1460, H⟩ := H
                                               replace H : (if t185 = t187 then (some (t184 == t186)) else (some false)) = some r := H
                                               have A146 := Aside0.mk A1460
                                               clear A1460
                                               by_cases c147 : t185 = t187
                                               · rw [if_pos c147] at H
                                                 have c147b0 : (t185 == t187) = true := beq_iff_eq.mpr c147
                                                 have c147b1 : (t185 != t187) = false := bne_eq_false_iff_eq.mpr c147
                                                 clear c147
                                                 obtain rfl := Option.some.inj H
                                                 go_wp2_with (first | (go_at_call 23; (with_reducible refine (spec_DrawSquaresOf.calls k7 _ _ l0 t181 _ ?side1 ?side2 A144.out).mono ?_); (case side1 => exact zC (Kd.C_below HR0.out HB.out)); (case side2 => exact HC0.out); rintro e w148 ⟨v182, rfl, ho0, hb⟩; have n_ := y4 (Kd.S_elder' (by (with_reducible repeat (first | apply Kd.S_alloc | apply Kd.S_drewN | apply Kd.S_drew)); exact HO_37.out) (Kd.R_base ho0) hb) (Kd.R_elder' (zR HO_45.out) (Kd.R_base ho0) hb) (Kd.R_lower (Kd.R_new' ho0 (Kd.R_lt (zR HO_45.out))) (below_size (zB))) (below_step (zB) hb); clear HO_37 HO_45 HB; obtain ⟨HO_37, HO_45, HO183, HB⟩ := n_; (try clear hb); (try clear hb2); (try clear hk); (try clear hi); (try clear ho0); obtain ⟨Ao149, co149, eo149⟩ := Kd.R_slice HO183.out; subst eo149) | (go_at_call 8; (with_reducible refine (impl_SquaresOf.calls k7 _ _ t181 t184 t185 _ ?side1 ?side2 A145.out).mono ?_); (case side1 => exact zC (Kd.R_reads' HO183.out).2.2); (case side2 => exact (Kd.R_reads' HO183.out).2.1); rintro e w150 ⟨rfl, hb⟩; have n_ := y4 (Kd.S_below (by (with_reducible repeat (first | apply Kd.S_alloc | apply Kd.S_drewN | apply Kd.S_drew)); exact HO_37.out) hb) (Kd.R_below (zR HO_45.out) hb) (Kd.R_below (zR HO183.out) hb) (below_step (zB) hb); clear HO_37 HO_45 HO183 HB; obtain ⟨HO_37, HO_45, HO183, HB⟩ := n_; (try clear hb); (try clear hb2); (try clear hk); (try clear hi)) | (go_at_call 9; (with_reducible refine (spec_SquaresOf.calls k7 _ _ t181 t186 t187 _ ?side1 ?side2 A146.out).mono ?_); (case side1 => exact zC (Kd.R_reads' HO183.out).2.2); (case side2 => exact (Kd.R_reads' HO183.out).2.1); rintro e w151 ⟨rfl, hb⟩; have n_ := y4 (Kd.S_below (by (with_reducible repeat (first | apply Kd.S_alloc | apply Kd.S_drewN | apply Kd.S_drew)); exact HO_37.out) hb) (Kd.R_below (zR HO_45.out) hb) (Kd.R_below (zR HO183.out) hb) (below_step (zB) hb); clear HO_37 HO_45 HO183 HB; obtain ⟨HO_37, HO_45, HO183, HB⟩ := n_; (try clear hb); (try clear hb2); (try clear hk); (try clear hi)))
                                                 repeat (go_quiet (fail); try go_wp2)
                                                 go_ret
                                                 exact ⟨zE, zB⟩
                                               · rw [if_neg c147] at H
                                                 have c147b0 : (t185 == t187) = false := beq_eq_false_iff_ne.mpr c147
                                                 have c147b1 : (t185 != t187) = true := bne_iff_ne.mpr c147
                                                 obtain rfl := Option.some.inj H
                                                 go_wp2_with (first | (go_at_call 23; (with_reducible refine (spec_DrawSquaresOf.calls k7 _ _ l0 t181 _ ?side1 ?side2 A144.out).mono ?_); (case side1 => exact zC (Kd.C_below HR0.out HB.out)); (case side2 => exact HC0.out); rintro e w152 ⟨v182, rfl, ho0, hb⟩; have n_ := y4 (Kd.S_elder' (by (with_reducible repeat (first | apply Kd.S_alloc | apply Kd.S_drewN | apply Kd.S_drew)); exact HO_37.out) (Kd.R_base ho0) hb) (Kd.R_elder' (zR HO_45.out) (Kd.R_base ho0) hb) (Kd.R_lower (Kd.R_new' ho0 (Kd.R_lt (zR HO_45.out))) (below_size (zB))) (below_step (zB) hb); clear HO_37 HO_45 HB; obtain ⟨HO_37, HO_45, HO183, HB⟩ := n_; (try clear hb); (try clear hb2); (try clear hk); (try clear hi); (try clear ho0); obtain ⟨Ao153, co153, eo153⟩ := Kd.R_slice HO183.out; subst eo153) | (go_at_call 8; (with_reducible refine (impl_SquaresOf.calls k7 _ _ t181 t184 t185 _ ?side1 ?side2 A145.out).mono ?_); (case side1 => exact zC (Kd.R_reads' HO183.out).2.2); (case side2 => exact (Kd.R_reads' HO183.out).2.1); rintro e w154 ⟨rfl, hb⟩; have n_ := y4 (Kd.S_below (by (with_reducible repeat (first | apply Kd.S_alloc | apply Kd.S_drewN | apply Kd.S_drew)); exact HO_37.out) hb) (Kd.R_below (zR HO_45.out) hb) (Kd.R_below (zR HO183.out) hb) (below_step (zB) hb); clear HO_37 HO_45 HO183 HB; obtain ⟨HO_37, HO_45, HO183, HB⟩ := n_; (try clear hb); (try clear hb2); (try clear hk); (try clear hi)) | (go_at_call 9; (with_reducible refine (spec_SquaresOf.calls k7 _ _ t181 t186 t187 _ ?side1 ?side2 A146.out).mono ?_); (case side1 => exact zC (Kd.R_reads' HO183.out).2.2); (case side2 => exact (Kd.R_reads' HO183.out).2.1); rintro e w155 ⟨rfl, hb⟩; have n_ := y4 (Kd.S_below (by (with_reducible repeat (first | apply Kd.S_alloc | apply Kd.S_drewN | apply Kd.S_drew)); exact HO_37.out) hb) (Kd.R_below (zR HO_45.out) hb) (Kd.R_below (zR HO183.out) hb) (below_step (zB) hb); clear HO_37 HO_45 HO183 HB; obtain ⟨HO_37, HO_45, HO183, HB⟩ := n_; (try clear hb); (try clear hb2); (try clear hk); (try clear hi)))
                                                 repeat (go_quiet (fail); try go_wp2)
                                                 go_ret
                                                 exact ⟨zE, zB⟩
                               · rw [if_neg c124] at H
                                 have c124b0 : (t158 == 0) = false := beq_eq_false_iff_ne.mpr c124
                                 have c124b1 : (t158 != 0) = true := bne_iff_ne.mpr c124
                                 replace H := Option.bind_eq_some_iff.mp H
                                 obtain ⟨t188, A1560, H⟩ := H
                                 replace H : ((impl_SquaresOf.f kj105 t188).bind fun bt191 => ((spec_SquaresOf.f kj105 t188).bind fun bt193 => (if bt191.2 = bt193.2 then (some (bt191.1 == bt193.1)) else (some false)))) = some r := H
                                 have A156 := Aside0.mk A1560
                                 clear A1560
                                 replace H := Option.bind_eq_some_iff.mp H
                                 obtain ⟨⟨t191, t192⟩, A1570, H⟩ := H
                                 replace H : ((spec_SquaresOf.f kj105 t188).bind fun bt193 => (if t192 = bt193.2 then (some (t191 == bt193.1)) else (some false))) = some r := H
                                 have A157 := Aside0.mk A1570
                                 clear A1570
                                 replace H := Option.bind_eq_some_iff.mp H
                                 obtain ⟨⟨t193, t194⟩, A1580, H⟩ := H
                                 replace H : (if t192 = t194 then (some (t191 == t193)) else (some false)) = some r := H
                                 have A158 := Aside0.mk A1580
                                 clear A1580
                                 by_cases c159 : t192 = t194
                                 · rw [if_pos c159] at H
                                   have c159b0 : (t192 == t194) = true := beq_iff_eq.mpr c159
                                   have c159b1 : (t192 != t194) = false := bne_eq_false_iff_eq.mpr c159
                                   clear c159
                                   obtain rfl := Option.some.inj H
                                   go_wp2_with (first | (go_at_call 23; (with_reducible refine (spec_DrawSquaresOf.calls kj105 _ _ l0 t188 _ ?side1 ?side2 A156.out).mono ?_); (case side1 => exact zC (Kd.C_below HR0.out HB.out)); (case side2 => exact HC0.out); rintro e w160 ⟨v189, rfl, ho0, hb⟩; have n_ := y4 (Kd.R_elder' (zR HO_36.out) (Kd.R_base ho0) hb) (Kd.S_elder' (by (with_reducible repeat (first | apply Kd.S_alloc | apply Kd.S_drewN | apply Kd.S_drew)); exact HO_37.out) (Kd.R_base ho0) hb) (Kd.R_lower (Kd.R_new' ho0 (Kd.R_lt (zR HO_36.out))) (below_size (zB))) (below_step (zB) hb); clear HO_36 HO_37 HB; obtain ⟨HO_36, HO_37, HO190, HB⟩ := n_; (try clear hb); (try clear hb2); (try clear hk); (try clear hi); (try clear ho0); obtain ⟨Ao161, co161, eo161⟩ := Kd.R_slice HO190.out; subst eo161) | (go_at_call 8; (with_reducible refine (impl_SquaresOf.calls kj105 _ _ t188 t191 t192 _ ?side1 ?side2 A157.out).mono ?_); (case side1 => exact zC (Kd.R_reads' HO190.out).2.2); (case side2 => exact (Kd.R_reads' HO190.out).2.1); rintro e w162 ⟨rfl, hb⟩; have n_ := y4 (Kd.R_below (zR HO_36.out) hb) (Kd.S_below (by (with_reducible repeat (first | apply Kd.S_alloc | apply Kd.S_drewN | apply Kd.S_drew)); exact HO_37.out) hb) (Kd.R_below (zR HO190.out) hb) (below_step (zB) hb); clear HO_36 HO_37 HO190 HB; obtain ⟨HO_36, HO_37, HO190, HB⟩ := n_; (try clear hb); (try clear hb2); (try clear hk); (try clear hi)) | (go_at_call 9; (with_reducible refine (spec_SquaresOf.calls kj105 _ _ t188 t193 t194 _ ?side1 ?side2 A158.out).mono ?_); (case side1 => exact zC (Kd.R_reads' HO190.out).2.2); (case side2 => exact (Kd.R_reads' HO190.out).2.1); rintro e w163 ⟨rfl, hb⟩; have n_ := y4 (Kd.R_below (zR HO_36.out) hb) (Kd.S_below (by (with_reducible repeat (first | apply Kd.S_alloc | apply Kd.S_drewN | apply Kd.S_drew)); exact HO_37.out) hb) (Kd.R_below (zR HO190.out) hb) (below_step (zB) hb); clear HO_36 HO_37 HO190 HB; obtain ⟨HO_36, HO_37, HO190, HB⟩ := n_; (try clear hb); (try clear hb2); (try clear hk); (try clear hi)))
                                   repeat (go_quiet (fail); try go_wp2)
                                   go_ret
                                   exact ⟨zE, zB⟩
                                 · rw [if_neg c159] at H
                                   have c159b0 : (t192 == t194) = false := beq_eq_false_iff_ne.mpr c159
                                   have c159b1 : (t192 != t194) = true := bne_iff_ne.mpr c159
                                   obtain rfl := Option.some.inj H
                                   go_wp2_with (first | (go_at_call 23; (with_reducible refine (spec_DrawSquaresOf.calls kj105 _ _ l0 t188 _ ?side1 ?side2 A156.out).mono ?_); (case side1 => exact zC (Kd.C_below HR0.out HB.out)); (case side2 => exact HC0.out); rintro e w164 ⟨v189, rfl, ho0, hb⟩; have n_ := y4 (Kd.R_elder' (zR HO_36.out) (Kd.R_base ho0) hb) (Kd.S_elder' (by (with_reducible repeat (first | apply Kd.S_alloc | apply Kd.S_drewN | apply Kd.S_drew)); exact HO_37.out) (Kd.R_base ho0) hb) (Kd.R_lower (Kd.R_new' ho0 (Kd.R_lt (zR HO_36.out))) (below_size (zB))) (below_step (zB) hb); clear HO_36 HO_37 HB; obtain ⟨HO_36, HO_37, HO190, HB⟩ := n_; (try clear hb); (try clear hb2); (try clear hk); (try clear hi); (try clear ho0); obtain ⟨Ao165, co165, eo165⟩ := Kd.R_slice HO190.out; subst eo165) | (go_at_call 8; (with_reducible refine (impl_SquaresOf.calls kj105 _ _ t188 t191 t192 _ ?side1 ?side2 A157.out).mono ?_); (case side1 => exact zC (Kd.R_reads' HO190.out).2.2); (case side2 => exact (Kd.R_reads' HO190.out).2.1); rintro e w166 ⟨rfl, hb⟩; have n_ := y4 (Kd.R_below (zR HO_36.out) hb) (Kd.S_below (by (with_reducible repeat (first | apply Kd.S_alloc | apply Kd.S_drewN | apply Kd.S_drew)); exact HO_37.out) hb) (Kd.R_below (zR HO190.out) hb) (below_step (zB) hb); clear HO_36 HO_37 HO190 HB; obtain ⟨HO_36, HO_37, HO190, HB⟩ := n_; (try clear hb); (try clear hb2); (try clear hk); (try clear hi)) | (go_at_call 9; (with_reducible refine (spec_SquaresOf.calls kj105 _ _ t188 t193 t194 _ ?side1 ?side2 A158.out).mono ?_); (case side1 => exact zC (Kd.R_reads' HO190.out).2.2); (case side2 => exact (Kd.R_reads' HO190.out).2.1); rintro e w167 ⟨rfl, hb⟩; have n_ := y4 (Kd.R_below (zR HO_36.out) hb) (Kd.S_below (by (with_reducible repeat (first | apply Kd.S_alloc | apply Kd.S_drewN | apply Kd.S_drew)); exact HO_37.out) hb) (Kd.R_below (zR HO190.out) hb) (below_step (zB) hb); clear HO_36 HO_37 HO190 HB; obtain ⟨HO_36, HO_37, HO190, HB⟩ := n_; (try clear hb); (try clear hb2); (try clear hk); (try clear hi)))
                                   repeat (go_quiet (fail); try go_wp2)
                                   go_ret
                                   exact ⟨zE, zB⟩
/-- THE ONE PURE STATEMENT of laws_FnExchanges: yours. -/
def laws_FnExchanges.Pure : Prop := ∀ (l0 : List Int), l0.length ≤ maxLen → l0.length * 1 ≤ 140737488351232 → (∀ x ∈ l0, (Lit.int .u8 x).wf = true) → ∃ k, laws_FnExchanges.f k l0 = some true
theorem laws_FnExchanges.walk (P : laws_FnExchanges.Pure) (a0 : Option Addr) (len0 cap0 : Nat) (z0 : List Int) (w : World) (w0 : (a0 = none ∧ len0 = 0 ∧ cap0 = 0 ∧ z0 = []) ∨ ∃ x, a0 = some x ∧ len0 ≤ cap0 ∧ cap0 ≤ maxLen ∧ z0.length = cap0 ∧ (∀ i, i < z0.length → w.cell? (x.add i) = some (.int .u8 (z0.getD i 0))) ∧ ∀ n ∈ z0, (Lit.int .u8 n).wf = true) (y0 : len0 * 1 ≤ 140737488351232) :
    Calls Try.prog 3 #[.slice a0 len0 cap0] w fun e w' => e = .returned (.bool true) ∧ Below w.heap.size w w' := by
 obtain ⟨l0, rfl, hr0, hm0, hw0, hc0⟩ := ReadsInt.ofRowC w0
 obtain ⟨k, h⟩ := P l0 hm0 y0 hw0
 refine (laws_FnExchanges.calls k _ _ l0 true w (Kd.C_of_reads (d := (0 : Int)) (h1 := fun _ => rfl) hr0) hc0 h).mono ?_
 rintro e w' ⟨rfl, hd⟩
 exact ⟨rfl, hd⟩
end Go.Proofs.Ytfmjckkgnieccaa.P
end
section
namespace Go.Proofs.Ytfmjckkgnieccaa.Pure
open Go.RowKit Go.Proofs.Ytfmjckkgnieccaa.P Go.Proofs.YtfmjckkgnieccaaW.PrintWords Go.Proofs.YtfmjckkgnieccaaW.PrintLast Go.Proofs.YtfmjckkgnieccaaW.PrintMore
set_option linter.unusedVariables false
set_option linter.unusedSimpArgs false
theorem ev_pos {α : Type} {c : Prop} [Decidable c] {A B : Nat → Option α} {r : α} (h : c) (e : Ev A r) : Ev (fun n => if c then A n else B n) r := Ev.congr (fun n => if_pos h) e
theorem ev_neg {α : Type} {c : Prop} [Decidable c] {A B : Nat → Option α} {r : α} (h : ¬ c) (e : Ev B r) : Ev (fun n => if c then A n else B n) r := Ev.congr (fun n => if_neg h) e
theorem ev_now {α : Type} (r : α) : Ev (fun _ => some r) r := Ev.now r
theorem ev_is {α : Type} {g : Option α} {r : α} (h : g = some r) : Ev (fun _ => g) r := by subst h; exact Ev.now r
theorem ev_bind {α β : Type} {g : Nat → Option α} {f : Nat → α → Option β} {a : α} {r : β} (h : Ev g a) (k : Ev (fun n => f n a) r) : Ev (fun n => (g n).bind (f n)) r := Ev.bind h k
theorem ev_fix {α β : Type} {g : Option α} {f : Nat → α → Option β} {a : α} {r : β} (h : g = some a) (k : Ev (fun n => f n a) r) : Ev (fun n => g.bind (f n)) r := by subst h; exact k
theorem ev_rounds {α : Type} {g : Nat → Option α} {r : α} (h : Ev g r) : ∃ k, g k = some r := h.rounds
theorem wrap_id {x : Int} (h1 : -9223372036854775808 ≤ x) (h2 : x ≤ 9223372036854775807) : wrap64 x = x := by unfold wrap64; omega
theorem wrap_succ {n : Nat} (h : n + 1 ≤ 9223372036854775807) : wrap64 ((n : Int) + 1) = ((n + 1 : Nat) : Int) := by rw [wrap_id (by omega) (by omega)]; omega
theorem rd_nat {l : List Int} {n : Nat} (h : n < l.length) : rd l (n : Int) = l[n] := by simp [rd, h]
end Go.Proofs.Ytfmjckkgnieccaa.Pure
end
section
namespace Go.Proofs.Ytfmjckkgnieccaa.Pure
open Go.RowKit Go.Proofs.Ytfmjckkgnieccaa.P Go.Proofs.YtfmjckkgnieccaaW.PrintWords Go.Proofs.YtfmjckkgnieccaaW.PrintLast Go.Proofs.YtfmjckkgnieccaaW.PrintMore
set_option linter.unusedVariables false
set_option linter.unusedSimpArgs false
/-- turns with two slots exchanged -/
def exch (l : List Int) (n m : Int) : List Int := (l.set n.toNat (rd l m)).set m.toNat (rd l n)
theorem l01Own_f (l : List Int) (hl : l.length < 17592186044416) : spec_l01Own.f l = some l := by
  unfold spec_l01Own.f
  simp only [Option.bind_some, List.nil_append, List.length_nil, Nat.zero_add]
  rw [if_pos hl]
theorem Clone_f (l : List Int) (hl : l.length < 17592186044416) : slices_Clone_Sint64_int64.f l = some l := by
  unfold slices_Clone_Sint64_int64.f
  rw [if_pos hl]
theorem l07Exchanged_f (l : List Int) (n m : Int) (hl : l.length < 17592186044416) (hn : 0 ≤ n ∧ n < l.length) (hm : 0 ≤ m ∧ m < l.length) : spec_l07Exchanged.f l n m = some (exch l n m) := by
  unfold spec_l07Exchanged.f
  rw [l01Own_f l hl, Option.bind_some, if_pos hm.1, if_pos hm.2, if_pos hn.1, if_pos hn.2, if_pos hn.2, if_pos hm.2]
  rfl
theorem exchanged_f (l : List Int) (n m : Int) (hl : l.length < 17592186044416) (hn : 0 ≤ n ∧ n < l.length) (hm : 0 ≤ m ∧ m < l.length) : impl_exchanged.f l n m = some (exch l n m) := by
  unfold impl_exchanged.f
  rw [Clone_f l hl, Option.bind_some, if_pos hm.1, if_pos hm.2, if_pos hn.1, if_pos hn.2, if_pos hn.2, if_pos hm.2]
  rfl
theorem exch_length (l : List Int) (n m : Int) : (exch l n m).length = l.length := by simp [exch]
end Go.Proofs.Ytfmjckkgnieccaa.Pure
end
section
namespace Go.Proofs.Ytfmjckkgnieccaa.Pure
set_option linter.unusedVariables false
set_option linter.unusedSimpArgs false
/-- how often x stands in a list -/
def cnt (x : Int) : List Int → Int
  | [] => 0
  | y :: l => (if y = x then 1 else 0) + cnt x l
theorem cnt_append (x : Int) (a b : List Int) : cnt x (a ++ b) = cnt x a + cnt x b := by
  induction a with
  | nil => simp [cnt]
  | cons y a ih => simp only [List.cons_append, cnt, ih]; omega
theorem cnt_take_succ (x : Int) (l : List Int) (n : Nat) (h : n < l.length) : cnt x (l.take (n + 1)) = cnt x (l.take n) + (if l[n] = x then 1 else 0) := by
  rw [List.take_succ_eq_append_getElem h, cnt_append]; simp [cnt]
theorem cnt_bounds (x : Int) (l : List Int) : 0 ≤ cnt x l ∧ cnt x l ≤ l.length := by
  induction l with
  | nil => simp [cnt]
  | cons y l ih =>
    simp only [cnt, List.length_cons]
    split <;> omega
/-- a list of the values of a function at 0, 1, .. -/
def tab (f : Nat → Int) (m : Nat) : List Int := (List.range' 0 m).map f
theorem tab_length (f : Nat → Int) (m : Nat) : (tab f m).length = m := by simp [tab]
theorem tab_get (f : Nat → Int) (m i : Nat) (h : i < (tab f m).length) : (tab f m)[i] = f i := by simp [tab]
theorem tab_succ (f : Nat → Int) (m : Nat) : tab f (m + 1) = tab f m ++ [f m] := by simp [tab, List.range'_1_concat]
theorem tab_ext {f : Nat → Int} {m : Nat} {l : List Int} (hl : l.length = m) (h : ∀ i (hi : i < l.length), l[i] = f i) : l = tab f m := by
  refine List.ext_getElem (by rw [tab_length]; exact hl) fun i h1 h2 => ?_
  rw [tab_get, h]
theorem tab_congr {f g : Nat → Int} {m : Nat} (h : ∀ i, i < m → f i = g i) : tab f m = tab g m :=
  tab_ext (tab_length f m) fun i hi => by rw [tab_get]; exact h i (by rw [tab_length] at hi; exact hi)
theorem tab_set (f : Nat → Int) (m b : Nat) (x : Int) : (tab f m).set b x = tab (fun i => if i = b then x else f i) m := by
  refine tab_ext (by rw [List.length_set, tab_length]) fun i hi => ?_
  rw [List.getElem_set]
  by_cases e : b = i
  · subst e; simp
  · rw [if_neg e, if_neg (fun h => e h.symm), tab_get]
theorem tab_zero (m : Nat) : tab (fun _ => 0) m = List.replicate m 0 := (tab_ext (by simp) fun i hi => by simp).symm
end Go.Proofs.Ytfmjckkgnieccaa.Pure
end
section
namespace Go.Proofs.Ytfmjckkgnieccaa.Pure
set_option linter.unusedVariables false
set_option linter.unusedSimpArgs false
/-- the slots at which turns hold x, counted from o -/
def posOf (x : Int) : Int → List Int → List Int
  | _, [] => []
  | o, y :: l => if y = x then o :: posOf x (o + 1) l else posOf x (o + 1) l
theorem posOf_append (x : Int) (l m : List Int) : ∀ o, posOf x o (l ++ m) = posOf x o l ++ posOf x (o + l.length) m := by
  induction l with
  | nil => intro o; simp [posOf]
  | cons y l ih =>
    intro o
    simp only [List.cons_append, posOf, ih, List.length_cons]
    rw [show o + ((l.length + 1 : Nat) : Int) = o + 1 + (l.length : Int) by omega]
    split <;> simp
theorem posOf_take_succ (x : Int) (l : List Int) (n : Nat) (h : n < l.length) : posOf x 0 (l.take (n + 1)) = posOf x 0 (l.take n) ++ (if l[n] = x then [(n : Int)] else []) := by
  rw [List.take_succ_eq_append_getElem h, posOf_append]
  congr 1
  rw [List.length_take, Nat.min_eq_left (by omega)]
  simp [posOf]
theorem posOf_range (x : Int) (l : List Int) : ∀ o, ∀ y ∈ posOf x o l, o ≤ y ∧ y < o + l.length := by
  induction l with
  | nil => intro o y hy; simp [posOf] at hy
  | cons z l ih =>
    intro o y hy
    simp only [posOf] at hy
    simp only [List.length_cons]
    split at hy
    · rcases List.mem_cons.1 hy with rfl | hy
      · omega
      · have := ih _ _ hy; omega
    · have := ih _ _ hy; omega
theorem posOf_length (x : Int) (l : List Int) : ∀ o, (posOf x o l).length ≤ l.length := by
  induction l with
  | nil => intro o; simp [posOf]
  | cons z l ih =>
    intro o
    simp only [posOf]
    have := ih (o + 1)
    split <;> simp only [List.length_cons] <;> omega
/-- the differences of neighbours -/
def diffs : List Int → List Int
  | a :: b :: t => (b - a) :: diffs (b :: t)
  | [_] => []
  | [] => []
theorem diffs_length : ∀ p : List Int, (diffs p).length = p.length - 1
  | a :: b :: t => by simp only [diffs, List.length_cons, diffs_length (b :: t)]; omega
  | [_] => rfl
  | [] => rfl
theorem diffs_get : ∀ (p : List Int) (i : Nat), i + 1 < p.length → (diffs p)[i]? = some (p.getD (i + 1) 0 - p.getD i 0)
  | a :: b :: t, 0, _ => by simp [diffs]
  | a :: b :: t, i + 1, h => by
    simp only [diffs, List.getElem?_cons_succ]
    rw [diffs_get (b :: t) i (by simp only [List.length_cons] at h ⊢; omega)]
    simp
  | [_], i, h => by simp at h
  | [], i, h => by simp at h
theorem diffs_snoc : ∀ (p : List Int) (n d : Int), p ≠ [] → diffs (p ++ [n]) = diffs p ++ [n - p.getLastD d]
  | [], _, _, h => absurd rfl h
  | [a], n, d, _ => by simp [diffs]
  | a :: b :: t, n, d, _ => by
    have := diffs_snoc (b :: t) n d (by simp)
    simp only [List.cons_append, diffs] at this ⊢
    rw [this]
    simp
/-- the waits of x in turns, round and round -/
def waitsOf (l : List Int) (x : Int) : List Int :=
  if posOf x 0 l = [] then [] else diffs (posOf x 0 l) ++ [(l.length : Int) - (posOf x 0 l).getLastD (-1) + (posOf x 0 l).headD (-1)]
theorem headD_mem {p : List Int} (h : p ≠ []) (d : Int) : p.headD d ∈ p := by cases p with | nil => exact absurd rfl h | cons a t => simp
theorem getLastD_mem {p : List Int} (h : p ≠ []) (d : Int) : p.getLastD d ∈ p := by
  cases p with
  | nil => exact absurd rfl h
  | cons a t => simp only [List.getLastD_cons]; exact List.getLastD_mem_cons
theorem waitsOf_length (l : List Int) (x : Int) : (waitsOf l x).length = (posOf x 0 l).length := by
  unfold waitsOf
  split
  · next h => rw [h]
  · next h =>
    have : 0 < (posOf x 0 l).length := List.length_pos_iff.2 h
    rw [List.length_append, diffs_length, List.length_singleton]; omega
end Go.Proofs.Ytfmjckkgnieccaa.Pure
end
section
namespace Go.Proofs.Ytfmjckkgnieccaa.Pure
open Go.RowKit Go.Proofs.Ytfmjckkgnieccaa.P Go.Proofs.YtfmjckkgnieccaaW.PrintWords Go.Proofs.YtfmjckkgnieccaaW.PrintLast Go.Proofs.YtfmjckkgnieccaaW.PrintMore
set_option linter.unusedVariables false
set_option linter.unusedSimpArgs false
/-- the greatest of a list, and 0 -/
def great (l : List Int) : Int := l.foldl mx 0
theorem le_mx (a b : Int) : a ≤ mx a b ∧ b ≤ mx a b := by unfold mx; split <;> omega
theorem le_foldl_mx (l : List Int) : ∀ a, a ≤ l.foldl mx a ∧ ∀ x ∈ l, x ≤ l.foldl mx a := by
  induction l with
  | nil => intro a; simp
  | cons y l ih =>
    intro a
    have h := ih (mx a y)
    have h2 := le_mx a y
    simp only [List.foldl_cons]
    refine ⟨by omega, ?_⟩
    intro x hx
    rcases List.mem_cons.1 hx with rfl | hx
    · omega
    · exact h.2 x hx
theorem great_take_succ (l : List Int) (n : Nat) (h : n < l.length) : great (l.take (n + 1)) = mx (great (l.take n)) l[n] := by
  rw [List.take_succ_eq_append_getElem h, great, List.foldl_append]; rfl
theorem great_pos {l : List Int} {x : Int} (h : x ∈ l) : x ≤ great l := (le_foldl_mx l 0).2 x h
end Go.Proofs.Ytfmjckkgnieccaa.Pure
end
section
namespace Go.Proofs.Ytfmjckkgnieccaa.Pure
open Go.RowKit Go.Proofs.Ytfmjckkgnieccaa.P Go.Proofs.YtfmjckkgnieccaaW.PrintWords Go.Proofs.YtfmjckkgnieccaaW.PrintLast Go.Proofs.YtfmjckkgnieccaaW.PrintMore
set_option linter.unusedVariables false
set_option linter.unusedSimpArgs false
theorem Index_l0 (l : List Int) (x : Int) (hl : l.length ≤ 9223372036854775807) : ∀ d n : Nat, n + d = l.length → (∀ y ∈ l.take n, y ≠ x) → Ev (fun k => slices_Index_Sint64_int64.l0 k l x (l.length : Int) (n : Int)) (if x ∈ l then (l.idxOf x : Int) else -1) := by
  intro d
  induction d with
  | zero =>
    intro n hn hno
    refine Ev.step (fun k => by rw [slices_Index_Sint64_int64.l0]) (ev_neg (by omega) (ev_is ?_))
    rw [List.take_of_length_le (by omega)] at hno
    rw [if_neg (fun h => hno x h rfl)]
  | succ d ih =>
    intro n hn hno
    have hlt : n < l.length := by omega
    refine Ev.step (fun k => by rw [slices_Index_Sint64_int64.l0]) (ev_pos (by omega) (ev_pos (by omega) (ev_pos (by omega) ?_)))
    rw [rd_nat hlt]
    by_cases h : x = l[n]
    · refine ev_pos h (ev_is ?_)
      rw [if_pos (h ▸ List.getElem_mem hlt)]
      congr 2
      symm
      rw [List.idxOf, List.findIdx_eq hlt]
      refine ⟨by simp [h], fun j hj => ?_⟩
      have := hno l[j] (List.mem_take_iff_getElem.2 ⟨j, by omega, rfl⟩)
      simpa using this
    · refine ev_neg h ?_
      rw [wrap_succ (by omega)]
      refine ih (n + 1) (by omega) ?_
      rw [List.take_succ_eq_append_getElem hlt]
      intro y hy
      rcases List.mem_append.1 hy with hy | hy
      · exact hno y hy
      · rw [List.mem_singleton.1 hy]; exact fun e => h e.symm
theorem Index_ev (l : List Int) (x : Int) (hl : l.length ≤ 9223372036854775807) : Ev (fun k => slices_Index_Sint64_int64.f k l x) (if x ∈ l then (l.idxOf x : Int) else -1) := by
  unfold slices_Index_Sint64_int64.f
  exact Index_l0 l x hl l.length 0 (by omega) (by simp)
theorem Contains_ev (l : List Int) (x : Int) (hl : l.length ≤ 9223372036854775807) : Ev (fun k => slices_Contains_Sint64_int64.f k l x) (l.contains x) := by
  unfold slices_Contains_Sint64_int64.f
  refine ev_bind (Index_ev l x hl) (ev_is ?_)
  by_cases h : x ∈ l
  · rw [if_pos h, List.contains_eq_mem, decide_eq_true h]; simp
  · rw [if_neg h, List.contains_eq_mem, decide_eq_false h]; simp
end Go.Proofs.Ytfmjckkgnieccaa.Pure
end
section
namespace Go.Proofs.Ytfmjckkgnieccaa.Pure
open Go.RowKit Go.Proofs.Ytfmjckkgnieccaa.P Go.Proofs.YtfmjckkgnieccaaW.PrintWords Go.Proofs.YtfmjckkgnieccaaW.PrintLast Go.Proofs.YtfmjckkgnieccaaW.PrintMore
set_option linter.unusedVariables false
set_option linter.unusedSimpArgs false
theorem l01In_f (n lo hi : Int) : spec_l01In.f n lo hi = some (decide (lo ≤ n ∧ n ≤ hi)) := by
  unfold spec_l01In.f
  by_cases h : n ≥ lo
  · rw [if_pos h]; simp [show lo ≤ n from h]
  · rw [if_neg h]; simp [show ¬ lo ≤ n from h]
theorem all_take_succ {α : Type} (p : α → Bool) (l : List α) (n : Nat) (h : n < l.length) : (l.take (n + 1)).all p = ((l.take n).all p && p l[n]) := by
  rw [List.take_succ_eq_append_getElem h, List.all_append]; simp
theorem all_false_at {α : Type} (p : α → Bool) (l : List α) (n : Nat) (h : n < l.length) (hp : p l[n] = false) : l.all p = false := by
  rw [Bool.eq_false_iff]
  intro ha
  rw [List.all_eq_true] at ha
  rw [ha _ (List.getElem_mem h)] at hp
  cases hp
end Go.Proofs.Ytfmjckkgnieccaa.Pure
end
section
namespace Go.Proofs.Ytfmjckkgnieccaa.Pure
open Go.RowKit Go.Proofs.Ytfmjckkgnieccaa.P Go.Proofs.YtfmjckkgnieccaaW.PrintWords Go.Proofs.YtfmjckkgnieccaaW.PrintLast Go.Proofs.YtfmjckkgnieccaaW.PrintMore
set_option linter.unusedVariables false
set_option linter.unusedSimpArgs false
def isTurns (l : List Int) (k : Int) : Bool := decide (1 ≤ (l.length : Int) ∧ (l.length : Int) ≤ 120) && l.all fun i => decide (-1 ≤ i ∧ i ≤ wrap64 (k - 1))
theorem areTurns_f (l : List Int) (k : Int) : impl_areTurns.f l k = some (isTurns l k) := rfl
theorem l01Turns_l0 (l : List Int) (m : Int) (hl : l.length ≤ 9223372036854775807) : ∀ d n : Nat, n + d = l.length → (l.take n).all (fun i => decide (-1 ≤ i ∧ i ≤ wrap64 (m - 1))) = true → Ev (fun k => spec_l01Turns.l0 k l m (n : Int)) (isTurns l m) := by
  intro d
  induction d with
  | zero =>
    intro n hn ha
    refine Ev.step (fun k => by rw [spec_l01Turns.l0]) ?_
    refine ev_neg (by omega) (ev_fix (l01In_f _ _ _) ?_)
    rw [List.take_of_length_le (by omega)] at ha
    refine ev_is ?_
    rw [isTurns, ha, Bool.and_true]
  | succ d ih =>
    intro n hn ha
    have hlt : n < l.length := by omega
    refine Ev.step (fun k => by rw [spec_l01Turns.l0]) ?_
    refine ev_pos (by omega) (ev_pos (by omega) (ev_fix (l01In_f _ _ _) ?_))
    rw [rd_nat hlt]
    cases hq : decide (-1 ≤ l[n] ∧ l[n] ≤ wrap64 (m - 1)) with
    | true =>
      refine ev_pos rfl ?_
      rw [wrap_succ (by omega)]
      exact ih (n + 1) (by omega) (by rw [all_take_succ _ _ _ hlt, ha, hq]; rfl)
    | false =>
      refine ev_neg (by simp) (ev_is ?_)
      rw [isTurns, all_false_at _ l n hlt hq, Bool.and_false]
theorem l01Turns_ev (l : List Int) (m : Int) (hl : l.length ≤ 9223372036854775807) : Ev (fun k => spec_l01Turns.f k l m) (isTurns l m) := by
  unfold spec_l01Turns.f
  exact l01Turns_l0 l m hl l.length 0 (by omega) (by simp)
theorem isTurns_len {l : List Int} {k : Int} (h : isTurns l k = true) : 1 ≤ l.length ∧ l.length ≤ 120 := by
  rw [isTurns, Bool.and_eq_true] at h
  have := of_decide_eq_true h.1
  omega
theorem isTurns_mem {l : List Int} {k : Int} (h : isTurns l k = true) {x : Int} (hx : x ∈ l) : -1 ≤ x ∧ x ≤ wrap64 (k - 1) := by
  rw [isTurns, Bool.and_eq_true, List.all_eq_true] at h
  exact of_decide_eq_true (h.2 x hx)
end Go.Proofs.Ytfmjckkgnieccaa.Pure
end
section
namespace Go.Proofs.Ytfmjckkgnieccaa.Pure
open Go.RowKit Go.Proofs.Ytfmjckkgnieccaa.P Go.Proofs.YtfmjckkgnieccaaW.PrintWords Go.Proofs.YtfmjckkgnieccaaW.PrintLast Go.Proofs.YtfmjckkgnieccaaW.PrintMore
set_option linter.unusedVariables false
set_option linter.unusedSimpArgs false
def sharesL (l : List Int) : List Int := tab (fun i => cnt (i : Int) l) (great l + 1).toNat
def levelR (l : List Int) : Int := if isTurns l 8 = true then (if l.contains (-1) = true then 5 else if (sharesL l).contains 0 = true then 5 else if (l.length : Int) > 60 then 5 else 0) else 2
theorem rd_tab {f : Nat → Int} {m i : Nat} (h : i < m) : rd (tab f m) (i : Int) = f i := by
  rw [rd_nat (by rw [tab_length]; exact h), tab_get]
theorem isTurns8_mem {l : List Int} (h : isTurns l 8 = true) {x : Int} (hx : x ∈ l) : -1 ≤ x ∧ x ≤ 7 := by
  have h1 := isTurns_mem h hx
  rw [wrap_id (by omega) (by omega)] at h1
  omega
theorem great_nonneg (l : List Int) : 0 ≤ great l := (le_foldl_mx l 0).1
theorem great_le {l : List Int} {b : Int} (hb : 0 ≤ b) (h : ∀ x ∈ l, x ≤ b) : great l ≤ b := by
  have : ∀ (m : List Int) (a : Int), a ≤ b → (∀ x ∈ m, x ≤ b) → m.foldl mx a ≤ b := by
    intro m
    induction m with
    | nil => intro a ha _; exact ha
    | cons y m ih =>
      intro a ha hm
      refine ih _ ?_ fun x hx => hm x (List.mem_cons_of_mem _ hx)
      have := hm y List.mem_cons_self
      unfold mx; split <;> omega
  exact this l 0 hb h
theorem contains_false {l : List Int} {x : Int} (h : l.contains x = false) : x ∉ l := by
  intro hx
  rw [List.contains_iff_mem.2 hx] at h
  exact absurd h (by simp)
structure Level (l : List Int) : Prop where
  turns : isTurns l 8 = true
  len : 1 ≤ l.length ∧ l.length ≤ 60
  mem : ∀ x ∈ l, 0 ≤ x ∧ x ≤ 7
  top : 0 ≤ great l ∧ great l ≤ 7
  pos : ∀ i : Nat, (i : Int) ≤ great l → 1 ≤ cnt i l
theorem levelR_zero {l : List Int} (h : levelR l = 0) : Level l := by
  unfold levelR at h
  split at h
  · next h1 =>
    split at h
    · omega
    · next h2 =>
      split at h
      · omega
      · next h3 =>
        split at h
        · omega
        · next h4 =>
          have hm : ∀ x ∈ l, 0 ≤ x ∧ x ≤ 7 := fun x hx => by
            have := isTurns8_mem h1 hx
            have : x ≠ -1 := fun e => contains_false (Bool.eq_false_iff.2 h2) (e ▸ hx)
            omega
          have hg := great_nonneg l
          refine ⟨h1, by have := isTurns_len h1; omega, hm, ⟨hg, great_le (by omega) fun x hx => (hm x hx).2⟩, fun i hi => ?_⟩
          have h0 := contains_false (Bool.eq_false_iff.2 h3)
          have hlt : i < (sharesL l).length := by rw [sharesL, tab_length]; omega
          have h5 : (sharesL l)[i] = cnt i l := by simp only [sharesL]; exact tab_get _ _ _ _
          have h6 : cnt (i : Int) l ≠ 0 := fun e => h0 (by rw [← e, ← h5]; exact List.getElem_mem hlt)
          have := (cnt_bounds (i : Int) l).1
          omega
  · omega
theorem share_l0 (l : List Int) (x : Int) (hl : l.length ≤ 1048576) : ∀ d n : Nat, n + d = l.length →
    Ev (fun k => impl_share.l0 k x (cnt x (l.take n)) l (l.length : Int) (n : Int)) (cnt x l) := by
  intro d
  induction d with
  | zero =>
    intro n hn
    rw [List.take_of_length_le (by omega)]
    exact Ev.step (fun k => by rw [impl_share.l0]) (ev_neg (by omega) (ev_now _))
  | succ d ih =>
    intro n hn
    have hlt : n < l.length := by omega
    have hb := cnt_bounds x (l.take n)
    rw [List.length_take] at hb
    have ih := ih (n + 1) (by omega)
    rw [cnt_take_succ x l n hlt] at ih
    refine Ev.step (fun k => by rw [impl_share.l0]) (ev_pos (by omega) (ev_pos (by omega) (ev_pos (by omega) ?_)))
    rw [rd_nat hlt, wrap_succ (by omega)]
    by_cases c : l[n] = x
    · rw [if_pos c] at ih
      refine ev_pos c ?_
      rw [wrap_id (by omega) (by omega)]
      exact ih
    · rw [if_neg c, Int.add_zero] at ih
      exact ev_neg c ih
theorem share_ev (l : List Int) (x : Int) (hl : l.length ≤ 1048576) : Ev (fun k => impl_share.f k l x) (cnt x l) := by
  unfold impl_share.f
  exact share_l0 l x hl l.length 0 (by omega)
theorem Max_l0 (l : List Int) (hl : l.length ≤ 1048576) (a : Int) : ∀ d n : Nat, n + d = l.length →
    Ev (fun k => slices_Max_Sint64_int64.l0 k l ((l.take n).foldl mx a) (n : Int)) (l.foldl mx a) := by
  intro d
  induction d with
  | zero =>
    intro n hn
    rw [List.take_of_length_le (by omega)]
    exact Ev.step (fun k => by rw [slices_Max_Sint64_int64.l0]) (ev_neg (by omega) (ev_now _))
  | succ d ih =>
    intro n hn
    have hlt : n < l.length := by omega
    refine Ev.step (fun k => by rw [slices_Max_Sint64_int64.l0]) (ev_pos (by omega) (ev_pos (by omega) ?_))
    rw [rd_nat hlt, wrap_succ (by omega)]
    have ih := ih (n + 1) (by omega)
    rw [List.take_succ_eq_append_getElem hlt, List.foldl_append] at ih
    exact ih
theorem mx_self (a : Int) : mx a a = a := by unfold mx; split <;> rfl
theorem Max_ev (l : List Int) (hl : l.length ≤ 1048576) (h0 : 1 ≤ l.length) (hp : ∀ x ∈ l, 0 ≤ x) : Ev (fun k => slices_Max_Sint64_int64.f k l) (great l) := by
  unfold slices_Max_Sint64_int64.f
  refine ev_neg (by omega) (ev_pos (by omega) ?_)
  cases l with
  | nil => simp at h0
  | cons y l =>
    have hy := hp y List.mem_cons_self
    have h1 := Max_l0 (y :: l) hl y l.length 1 (by simp only [List.length_cons]; omega)
    have e0 : great (y :: l) = (y :: l).foldl mx y := by
      have : mx 0 y = y := by unfold mx; split <;> omega
      simp only [great, List.foldl_cons, this, mx_self]
    have e1 : ((y :: l).take 1).foldl mx y = y := by simp [mx_self]
    rw [e1, ← e0] at h1
    exact h1
theorem sharesOf_l0 (l : List Int) (hl : l.length ≤ 1048576) (M : Nat) (hM : M ≤ 1000) : ∀ d n : Nat, n + d = M →
    Ev (fun k => impl_sharesOf.l0 k l (tab (fun i => cnt (i : Int) l) n) (M : Int) (n : Int)) (tab (fun i => cnt (i : Int) l) M) := by
  intro d
  induction d with
  | zero =>
    intro n hn
    obtain rfl : n = M := by omega
    exact Ev.step (fun k => by rw [impl_sharesOf.l0]) (ev_neg (by omega) (ev_now _))
  | succ d ih =>
    intro n hn
    have ih := ih (n + 1) (by omega)
    rw [tab_succ] at ih
    refine Ev.step (fun k => by rw [impl_sharesOf.l0]) ?_
    refine ev_pos (by omega) (ev_bind (share_ev l _ hl) (ev_pos (by rw [tab_length]; omega) ?_))
    rw [wrap_succ (by omega)]
    exact ih
theorem sharesOf_ev (l : List Int) (hl : l.length ≤ 1048576) (h0 : 1 ≤ l.length) (hp : ∀ x ∈ l, 0 ≤ x ∧ x ≤ 7) : Ev (fun k => impl_sharesOf.f k l) (sharesL l) := by
  unfold impl_sharesOf.f
  have hg := great_nonneg l
  have hg2 := great_le (l := l) (b := 7) (by omega) fun x hx => (hp x hx).2
  refine ev_bind (Max_ev l hl h0 fun x hx => (hp x hx).1) ?_
  rw [wrap_id (by omega) (by omega), show great l + 1 = ((great l + 1).toNat : Int) by omega]
  exact sharesOf_l0 l hl (great l + 1).toNat (by omega) (great l + 1).toNat 0 (by omega)
end Go.Proofs.Ytfmjckkgnieccaa.Pure
end
