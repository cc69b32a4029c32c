/- Lessened gaps are at most the gaps, harmonic turns serve their tasks, and turns by powers and by one number serve. -/
import Derived.Test.YtgbapmmfhdphmaaCFnHarmonic7
section
namespace Go.Proofs.Ytgbapmmfhdphmaa.P
open Go.RowKit Go.Proofs.YtgbapmmfhdphmaaW.PrintWords Go.Proofs.YtgbapmmfhdphmaaW.PrintLast Go.Proofs.YtgbapmmfhdphmaaW.PrintMore
attribute [local go_sem] max2_int min2_int max_two min_two max_three min_three max_four min_four   -- for this text's walks alone
set_option linter.unusedVariables false
set_option linter.unusedSimpArgs false
set_option maxHeartbeats 8000000 in
set_option maxRecDepth 100000 in
theorem laws_FnHarmonic.calls (k : Nat) (A0 : Option Addr) (c0 : Nat) (l0 : List Int) (r : Bool) (w : World) (hr0 : Kd.C (Kd.int .u8) w A0 l0.length l0) (hc0 : l0.length ≤ c0) (h : laws_FnHarmonic.f k l0 = some r) :
    Calls Try.prog 3 #[.slice A0 l0.length c0] w fun e w' => e = .returned (.bool r) ∧ Below w.heap.size w w' := by
 have hu26 := Try.underlying26
 have HR0 := Aside0.mk hr0
 have HC0 := Aside0.mk hc0
 clear hr0 hc0
 have HB := Aside0.mk (Below.refl w.heap.size w)
 have H : ((laws_big.f l0).bind fun t101 => (if t101 = true then (some true) else ((spec_DrawHarmonicTurns.f k l0).bind fun t102 => ((impl_HarmonicTurns.f k t102).bind fun bt106 => ((spec_HarmonicTurns.f k t102).bind fun bt110 => ((impl_AreHarmonic.f t102).bind fun bt114 => ((spec_AreHarmonic.f k t102).bind fun bt116 => (if bt106.2 = bt110.2 then ((laws_likeInts.f k bt106.1 bt110.1).bind fun t118 => (if t118 = true then (if bt114.2 = bt116.2 then (laws_FnHarmonic.j0 k l0 bt106.1 bt106.2 bt114.1 bt114.2 (bt114.1 != bt116.1) t102) else (laws_FnHarmonic.j0 k l0 bt106.1 bt106.2 bt114.1 bt114.2 true t102)) else (laws_FnHarmonic.j0 k l0 bt106.1 bt106.2 bt114.1 bt114.2 true t102))) else (laws_FnHarmonic.j0 k l0 bt106.1 bt106.2 bt114.1 bt114.2 true t102))))))))) = some r := h
 clear h
 replace H := Option.bind_eq_some_iff.mp H
 obtain ⟨t101, A20, H⟩ := H
 replace H : (if t101 = true then (some true) else ((spec_DrawHarmonicTurns.f k l0).bind fun t102 => ((impl_HarmonicTurns.f k t102).bind fun bt106 => ((spec_HarmonicTurns.f k t102).bind fun bt110 => ((impl_AreHarmonic.f t102).bind fun bt114 => ((spec_AreHarmonic.f k t102).bind fun bt116 => (if bt106.2 = bt110.2 then ((laws_likeInts.f k bt106.1 bt110.1).bind fun t118 => (if t118 = true then (if bt114.2 = bt116.2 then (laws_FnHarmonic.j0 k l0 bt106.1 bt106.2 bt114.1 bt114.2 (bt114.1 != bt116.1) t102) else (laws_FnHarmonic.j0 k l0 bt106.1 bt106.2 bt114.1 bt114.2 true t102)) else (laws_FnHarmonic.j0 k l0 bt106.1 bt106.2 bt114.1 bt114.2 true t102))) else (laws_FnHarmonic.j0 k l0 bt106.1 bt106.2 bt114.1 bt114.2 true t102)))))))) = some r := H
 have A2 := Aside0.mk A20
 clear A20
 by_cases c3 : t101 = true
 ·
  subst c3
  have H1 : (some true) = some r := by rw [if_pos rfl] at H; exact H
  clear H
  have H := H1
  clear H1
  obtain rfl := Option.some.inj H
  go_enter Try.func3, Try.ntmps3
  go_wp2_with (first | (go_at_call 4; (with_reducible refine (laws_big.calls _ _ l0 true _ ?side1 ?side2 A2.out).mono ?_); (case side1 => exact zC HR0.out); (case side2 => exact HC0.out); rintro e w' ⟨rfl, ⟨nd, rfl⟩⟩; (try exact zd)))
  repeat (go_quiet (first | (go_at_call 4; (with_reducible refine (laws_big.calls _ _ l0 true _ ?side1 ?side2 A2.out).mono ?_); (case side1 => exact zC HR0.out); (case side2 => exact HC0.out); rintro e w' ⟨rfl, ⟨nd, rfl⟩⟩; (try exact zd))); try go_wp2_with (first | (go_at_call 4; (with_reducible refine (laws_big.calls _ _ l0 true _ ?side1 ?side2 A2.out).mono ?_); (case side1 => exact zC HR0.out); (case side2 => exact HC0.out); rintro e w' ⟨rfl, ⟨nd, rfl⟩⟩; (try exact zd))))
  go_ret
  exact ⟨zE, zB⟩
 replace c3 := Bool.eq_false_iff.mpr c3
 subst c3
 have H1 : ((spec_DrawHarmonicTurns.f k l0).bind fun t102 => ((impl_HarmonicTurns.f k t102).bind fun bt106 => ((spec_HarmonicTurns.f k t102).bind fun bt110 => ((impl_AreHarmonic.f t102).bind fun bt114 => ((spec_AreHarmonic.f k t102).bind fun bt116 => (if bt106.2 = bt110.2 then ((laws_likeInts.f k bt106.1 bt110.1).bind fun t118 => (if t118 = true then (if bt114.2 = bt116.2 then (laws_FnHarmonic.j0 k l0 bt106.1 bt106.2 bt114.1 bt114.2 (bt114.1 != bt116.1) t102) else (laws_FnHarmonic.j0 k l0 bt106.1 bt106.2 bt114.1 bt114.2 true t102)) else (laws_FnHarmonic.j0 k l0 bt106.1 bt106.2 bt114.1 bt114.2 true t102))) else (laws_FnHarmonic.j0 k l0 bt106.1 bt106.2 bt114.1 bt114.2 true t102))))))) = some r := by rw [if_neg (show ¬ (false = true) by decide)] at H; exact H
 clear H
 have H := H1
 clear H1
 replace H := Option.bind_eq_some_iff.mp H
 obtain ⟨t102, A40, H⟩ := H
 replace H : ((impl_HarmonicTurns.f k t102).bind fun bt106 => ((spec_HarmonicTurns.f k t102).bind fun bt110 => ((impl_AreHarmonic.f t102).bind fun bt114 => ((spec_AreHarmonic.f k t102).bind fun bt116 => (if bt106.2 = bt110.2 then ((laws_likeInts.f k bt106.1 bt110.1).bind fun t118 => (if t118 = true then (if bt114.2 = bt116.2 then (laws_FnHarmonic.j0 k l0 bt106.1 bt106.2 bt114.1 bt114.2 (bt114.1 != bt116.1) t102) else (laws_FnHarmonic.j0 k l0 bt106.1 bt106.2 bt114.1 bt114.2 true t102)) else (laws_FnHarmonic.j0 k l0 bt106.1 bt106.2 bt114.1 bt114.2 true t102))) else (laws_FnHarmonic.j0 k l0 bt106.1 bt106.2 bt114.1 bt114.2 true t102)))))) = some r := H
 have A4 := Aside0.mk A40
 clear A40
 replace H := Option.bind_eq_some_iff.mp H
 obtain ⟨⟨t106, t109⟩, A50, H⟩ := H
 replace H : ((spec_HarmonicTurns.f k t102).bind fun bt110 => ((impl_AreHarmonic.f t102).bind fun bt114 => ((spec_AreHarmonic.f k t102).bind fun bt116 => (if t109 = bt110.2 then ((laws_likeInts.f k t106 bt110.1).bind fun t118 => (if t118 = true then (if bt114.2 = bt116.2 then (laws_FnHarmonic.j0 k l0 t106 t109 bt114.1 bt114.2 (bt114.1 != bt116.1) t102) else (laws_FnHarmonic.j0 k l0 t106 t109 bt114.1 bt114.2 true t102)) else (laws_FnHarmonic.j0 k l0 t106 t109 bt114.1 bt114.2 true t102))) else (laws_FnHarmonic.j0 k l0 t106 t109 bt114.1 bt114.2 true t102))))) = some r := H
 have A5 := Aside0.mk A50
 clear A50
 replace H := Option.bind_eq_some_iff.mp H
 obtain ⟨⟨t110, t113⟩, A60, H⟩ := H
 replace H : ((impl_AreHarmonic.f t102).bind fun bt114 => ((spec_AreHarmonic.f k t102).bind fun bt116 => (if t109 = t113 then ((laws_likeInts.f k t106 t110).bind fun t118 => (if t118 = true then (if bt114.2 = bt116.2 then (laws_FnHarmonic.j0 k l0 t106 t109 bt114.1 bt114.2 (bt114.1 != bt116.1) t102) else (laws_FnHarmonic.j0 k l0 t106 t109 bt114.1 bt114.2 true t102)) else (laws_FnHarmonic.j0 k l0 t106 t109 bt114.1 bt114.2 true t102))) else (laws_FnHarmonic.j0 k l0 t106 t109 bt114.1 bt114.2 true t102)))) = some r := H
 have A6 := Aside0.mk A60
 clear A60
 replace H := Option.bind_eq_some_iff.mp H
 obtain ⟨⟨t114, t115⟩, A70, H⟩ := H
 replace H : ((spec_AreHarmonic.f k t102).bind fun bt116 => (if t109 = t113 then ((laws_likeInts.f k t106 t110).bind fun t118 => (if t118 = true then (if t115 = bt116.2 then (laws_FnHarmonic.j0 k l0 t106 t109 t114 t115 (t114 != bt116.1) t102) else (laws_FnHarmonic.j0 k l0 t106 t109 t114 t115 true t102)) else (laws_FnHarmonic.j0 k l0 t106 t109 t114 t115 true t102))) else (laws_FnHarmonic.j0 k l0 t106 t109 t114 t115 true t102))) = some r := H
 have A7 := Aside0.mk A70
 clear A70
 replace H := Option.bind_eq_some_iff.mp H
 obtain ⟨⟨t116, t117⟩, A80, H⟩ := H
 replace H : (if t109 = t113 then ((laws_likeInts.f k t106 t110).bind fun t118 => (if t118 = true then (if t115 = t117 then (laws_FnHarmonic.j0 k l0 t106 t109 t114 t115 (t114 != t116) t102) else (laws_FnHarmonic.j0 k l0 t106 t109 t114 t115 true t102)) else (laws_FnHarmonic.j0 k l0 t106 t109 t114 t115 true t102))) else (laws_FnHarmonic.j0 k l0 t106 t109 t114 t115 true t102)) = some r := H
 have A8 := Aside0.mk A80
 clear A80
 have HC9 := Aside0.mk H
 clear H
 go_enter Try.func3, Try.ntmps3
 go_upto_region 8 with (first | (go_at_call 4; (with_reducible refine (laws_big.calls _ _ l0 false _ ?side1 ?side2 A2.out).mono ?_); (case side1 => exact zC HR0.out); (case side2 => exact HC0.out); rintro e w' ⟨rfl, ⟨nd, rfl⟩⟩; (try exact zd)) | (go_at_call 5; (with_reducible refine (spec_DrawHarmonicTurns.calls k _ _ l0 t102 _ ?side1 ?side2 A4.out).mono ?_); (case side1 => exact zC HR0.out); (case side2 => exact HC0.out); rintro e w10 ⟨v103, rfl, ho0, hb⟩; have n_ := y2 (Kd.R_lower ho0 (below_size (zB))) (below_step (zB) hb); clear HB; obtain ⟨HO104, HB⟩ := n_; (try clear hb); (try clear hb2); (try clear hk); (try clear hi); (try clear ho0)) | ((with_reducible refine gate_dst (N := 3) rfl ?_); (try (refine gate_guard (by rfl) ?_; dsimp only)); refine box_event zr (N := 3) zr (cs := #[.slice none 0 0]) (t := 26) zg ?_; intro gb105 hg w11 hbox hb; have n_ := y5 (Kd.R_below (zR HO104.out) hb) (below_step (zB) hb) (hbox) ((zS hg : w.heap.size ≤ gb105)) ((zS hg : w.heap.size ≤ gb105)); clear HO104 HB; obtain ⟨HO104, HB, BK105, GW105, GE105⟩ := n_; clear hb hbox hg; obtain ⟨Ao12, co12, eo12⟩ := Kd.R_slice HO104.out; subst eo12; have hcz13_0 := zc BK105.out; have hfz13_0 := blk_frozen BK105.out 0) | (go_at_call 6; (with_reducible refine (impl_HarmonicTurns.calls k _ _ t102 t106 t109 _ ?side1 ?side2 A5.out).mono ?_); (case side1 => refine (Kd.R_reads' (e := 2) (base := w.heap.size) (ok := fun k_ => True) (n := t102.length) (c := co12) ?_).2.2; exact (by refine zR ?_; exact (Kd.R_mono (Kd.R_far (p := ⟨gb105, 0, none⟩) (Kd.R_types HO104.out BK105.out (by decide)) (fun _ hk => hk.2) (.slice Ao12 t102.length co12)) (fun _ h_ => h_.1)))); (case side2 => exact (Kd.R_reads' HO104.out).2.1); rintro e w14 ⟨v107, rfl, ho0, hb⟩; have n_ := y4 (Kd.R_elder' (by refine zR ?_; exact (Kd.R_mono (Kd.R_far (p := ⟨gb105, 0, none⟩) (Kd.R_types HO104.out BK105.out (by decide)) (fun _ hk => hk.2) (.slice Ao12 t102.length co12)) (fun _ h_ => h_.1))) (Kd.R_base ho0) hb) (Kd.R_lower (Kd.R_new' ho0 (Kd.R_lt (by refine zR ?_; exact (Kd.R_mono (Kd.R_far (p := ⟨gb105, 0, none⟩) (Kd.R_types HO104.out BK105.out (by decide)) (fun _ hk => hk.2) (.slice Ao12 t102.length co12)) (fun _ h_ => h_.1))))) (below_size (zB))) (blk_below (g := gb105) (o := .cells #[.slice Ao12 t102.length co12] 26 (0, 0)) (by refine zG ?_; refine blk_put (cs := #[.slice none 0 0]) ?_ 0 _ rfl; refine zG ?_; exact BK105.out) hb) (below_step (zB) hb); clear HO104 BK105 HB; obtain ⟨HO104, HO108, BK105, HB⟩ := n_; (try clear hb); (try clear hb2); (try clear hk); (try clear hi); (try clear ho0); have hcz15_0 := zc BK105.out; have hfz15_0 := blk_frozen BK105.out 0) | (go_at_call 7; (with_reducible refine (spec_HarmonicTurns.calls k _ _ t102 t110 t113 _ ?side1 ?side2 A6.out).mono ?_); (case side1 => exact zC (Kd.R_reads' HO104.out).2.2); (case side2 => exact (Kd.R_reads' HO104.out).2.1); rintro e w16 ⟨v111, rfl, ho0, hb⟩; have n_ := y5 (Kd.R_elder' (zR HO104.out) (Kd.R_base ho0) hb) (Kd.R_elder' (zR HO108.out) (Kd.R_base ho0) hb) (Kd.R_lower (Kd.R_new' (Kd.R_new' ho0 (Kd.R_lt (zR HO104.out))) (Kd.R_lt (zR HO108.out))) (below_size (zB))) (zb BK105.out hb) (below_step (zB) hb); clear HO104 HO108 BK105 HB; obtain ⟨HO104, HO108, HO112, BK105, HB⟩ := n_; (try clear hb); (try clear hb2); (try clear hk); (try clear hi); (try clear ho0); have hcz17_0 := zc BK105.out; have hfz17_0 := blk_frozen BK105.out 0) | (go_at_call 8; (with_reducible refine (impl_AreHarmonic.calls _ _ t102 t114 t115 _ ?side1 ?side2 A7.out).mono ?_); (case side1 => exact zC (Kd.R_reads' HO104.out).2.2); (case side2 => exact (Kd.R_reads' HO104.out).2.1); rintro e w18 ⟨rfl, hb⟩; have n_ := y5 (Kd.R_below (zR HO104.out) hb) (Kd.R_below (zR HO108.out) hb) (Kd.R_below (zR HO112.out) hb) (zb BK105.out hb) (below_step (zB) hb); clear HO104 HO108 HO112 BK105 HB; obtain ⟨HO104, HO108, HO112, BK105, HB⟩ := n_; (try clear hb); (try clear hb2); (try clear hk); (try clear hi); have hcz19_0 := zc BK105.out; have hfz19_0 := blk_frozen BK105.out 0) | (go_at_call 9; (with_reducible refine (spec_AreHarmonic.calls k _ _ t102 t116 t117 _ ?side1 ?side2 A8.out).mono ?_); (case side1 => exact zC (Kd.R_reads' HO104.out).2.2); (case side2 => exact (Kd.R_reads' HO104.out).2.1); rintro e w20 ⟨rfl, hb⟩; have n_ := y5 (Kd.R_below (zR HO104.out) hb) (Kd.R_below (zR HO108.out) hb) (Kd.R_below (zR HO112.out) hb) (zb BK105.out hb) (below_step (zB) hb); clear HO104 HO108 HO112 BK105 HB; obtain ⟨HO104, HO108, HO112, BK105, HB⟩ := n_; (try clear hb); (try clear hb2); (try clear hk); (try clear hi)))
 repeat (go_quiet (fail); go_upto_region 8 with (fail))
 (try simp only [Act.put, List.setIfInBounds_toArray, List.set_cons_zero, List.set_cons_succ])
 go_cut [83] (fun v83 wc => ∃ (kq : Nat) (x83_8 : Bool), v83 = .bool x83_8 ∧ Aside0 (laws_FnHarmonic.j0 kq l0 t106 t109 t114 t115 x83_8 t102 = some r) ∧ Aside0 (kq ≤ k) ∧ Aside0 (Kd.R (Kd.int .i64) 2 wc w.heap.size (fun k_ => some k_ ≠ ((.slice Ao12 t102.length co12) : Value).ownBlock) v107 t106) ∧ Aside0 (Kd.R (Kd.int .i64) 2 wc w.heap.size (fun k_ => some k_ ≠ (v107 : Value).ownBlock) (.slice Ao12 t102.length co12) t102) ∧ Aside0 (wc.heap[gb105]? = some (.cells #[(.slice Ao12 t102.length co12)] 26 (0, 0))) ∧ Aside0 (Below w.heap.size w wc))
 case first =>
  as_aux_lemma =>
   have H := HC9.out
   clear HC9
   by_cases c21 : t109 = t113
   ·
    rw [if_pos c21] at H
    have c21b0 : (t109 == t113) = true := beq_iff_eq.mpr c21
    have c21b1 : (t109 != t113) = false := bne_eq_false_iff_eq.mpr c21
    clear c21
    (first | rw [c21b0] | (simp only [i64_w, i32_w]; rw [c21b0]) | skip)
    replace H := Option.bind_eq_some_iff.mp H
    obtain ⟨t118, A220, H⟩ := H
    replace H : (if t118 = true then (if t115 = t117 then (laws_FnHarmonic.j0 k l0 t106 t109 t114 t115 (t114 != t116) t102) else (laws_FnHarmonic.j0 k l0 t106 t109 t114 t115 true t102)) else (laws_FnHarmonic.j0 k l0 t106 t109 t114 t115 true t102)) = some r := H
    have A22 := Aside0.mk A220
    clear A220
    by_cases c23 : t118 = true
    ·
     subst c23
     have H1 : (if t115 = t117 then (laws_FnHarmonic.j0 k l0 t106 t109 t114 t115 (t114 != t116) t102) else (laws_FnHarmonic.j0 k l0 t106 t109 t114 t115 true t102)) = some r := by rw [if_pos rfl] at H; exact H
     clear H
     have H := H1
     clear H1
     by_cases c24 : t115 = t117
     ·
      rw [if_pos c24] at H
      have c24b0 : (t115 == t117) = true := beq_iff_eq.mpr c24
      have c24b1 : (t115 != t117) = false := bne_eq_false_iff_eq.mpr c24
      clear c24
      have H' := Aside0.mk H
      clear H
      obtain ⟨Ao25, co25, eo25⟩ := Kd.R_slice HO108.out
      subst eo25
      obtain ⟨Ao26, co26, eo26⟩ := Kd.R_slice HO112.out
      subst eo26
      go_wp2_with (first | (go_at_call 10; (with_reducible refine (laws_likeInts.calls k _ _ t106 _ _ t110 true _ ?side1 ?side2 ?side3 ?side4 A22.out).mono ?_); (case side1 => exact zC (Kd.R_reads' HO108.out).2.2); (case side2 => exact (Kd.R_reads' HO108.out).2.1); (case side3 => exact zC (Kd.R_reads' HO112.out).2.2); (case side4 => exact (Kd.R_reads' HO112.out).2.1); rintro e w' ⟨rfl, ⟨nd, rfl⟩⟩; (try exact zd)))
      repeat (go_quiet (first | (go_at_call 10; (with_reducible refine (laws_likeInts.calls k _ _ t106 _ _ t110 true _ ?side1 ?side2 ?side3 ?side4 A22.out).mono ?_); (case side1 => exact zC (Kd.R_reads' HO108.out).2.2); (case side2 => exact (Kd.R_reads' HO108.out).2.1); (case side3 => exact zC (Kd.R_reads' HO112.out).2.2); (case side4 => exact (Kd.R_reads' HO112.out).2.1); rintro e w' ⟨rfl, ⟨nd, rfl⟩⟩; (try exact zd))); try go_wp2_with (first | (go_at_call 10; (with_reducible refine (laws_likeInts.calls k _ _ t106 _ _ t110 true _ ?side1 ?side2 ?side3 ?side4 A22.out).mono ?_); (case side1 => exact zC (Kd.R_reads' HO108.out).2.2); (case side2 => exact (Kd.R_reads' HO108.out).2.1); (case side3 => exact zC (Kd.R_reads' HO112.out).2.2); (case side4 => exact (Kd.R_reads' HO112.out).2.1); rintro e w' ⟨rfl, ⟨nd, rfl⟩⟩; (try exact zd))))
      go_meet
      case rel => exact ⟨_, ((t114 != t116)), zF, H', ⟨by first | omega | exact Nat.le_refl _⟩, ⟨by refine zR ?_; exact Kd.R_mono HO108.out (fun _ hk => hk.1.2)⟩, ⟨by refine zR ?_; exact Kd.R_mono HO104.out (fun _ hk => hk.1.2)⟩, ⟨zG BK105.out⟩, ⟨zB⟩⟩
     rw [if_neg c24] at H
     have c24b0 : (t115 == t117) = false := beq_eq_false_iff_ne.mpr c24
     have c24b1 : (t115 != t117) = true := bne_iff_ne.mpr c24
     have H' := Aside0.mk H
     clear H
     obtain ⟨Ao27, co27, eo27⟩ := Kd.R_slice HO108.out
     subst eo27
     obtain ⟨Ao28, co28, eo28⟩ := Kd.R_slice HO112.out
     subst eo28
     go_wp2_with (first | (go_at_call 10; (with_reducible refine (laws_likeInts.calls k _ _ t106 _ _ t110 true _ ?side1 ?side2 ?side3 ?side4 A22.out).mono ?_); (case side1 => exact zC (Kd.R_reads' HO108.out).2.2); (case side2 => exact (Kd.R_reads' HO108.out).2.1); (case side3 => exact zC (Kd.R_reads' HO112.out).2.2); (case side4 => exact (Kd.R_reads' HO112.out).2.1); rintro e w' ⟨rfl, ⟨nd, rfl⟩⟩; (try exact zd)))
     repeat (go_quiet (first | (go_at_call 10; (with_reducible refine (laws_likeInts.calls k _ _ t106 _ _ t110 true _ ?side1 ?side2 ?side3 ?side4 A22.out).mono ?_); (case side1 => exact zC (Kd.R_reads' HO108.out).2.2); (case side2 => exact (Kd.R_reads' HO108.out).2.1); (case side3 => exact zC (Kd.R_reads' HO112.out).2.2); (case side4 => exact (Kd.R_reads' HO112.out).2.1); rintro e w' ⟨rfl, ⟨nd, rfl⟩⟩; (try exact zd))); try go_wp2_with (first | (go_at_call 10; (with_reducible refine (laws_likeInts.calls k _ _ t106 _ _ t110 true _ ?side1 ?side2 ?side3 ?side4 A22.out).mono ?_); (case side1 => exact zC (Kd.R_reads' HO108.out).2.2); (case side2 => exact (Kd.R_reads' HO108.out).2.1); (case side3 => exact zC (Kd.R_reads' HO112.out).2.2); (case side4 => exact (Kd.R_reads' HO112.out).2.1); rintro e w' ⟨rfl, ⟨nd, rfl⟩⟩; (try exact zd))))
     go_meet
     case rel => exact ⟨_, (true), zF, H', ⟨by first | omega | exact Nat.le_refl _⟩, ⟨by refine zR ?_; exact Kd.R_mono HO108.out (fun _ hk => hk.1.2)⟩, ⟨by refine zR ?_; exact Kd.R_mono HO104.out (fun _ hk => hk.1.2)⟩, ⟨zG BK105.out⟩, ⟨zB⟩⟩
    replace c23 := Bool.eq_false_iff.mpr c23
    subst c23
    have H1 : (laws_FnHarmonic.j0 k l0 t106 t109 t114 t115 true t102) = some r := by rw [if_neg (show ¬ (false = true) by decide)] at H; exact H
    clear H
    have H := H1
    clear H1
    have H' := Aside0.mk H
    clear H
    obtain ⟨Ao29, co29, eo29⟩ := Kd.R_slice HO108.out
    subst eo29
    obtain ⟨Ao30, co30, eo30⟩ := Kd.R_slice HO112.out
    subst eo30
    go_wp2_with (first | (go_at_call 10; (with_reducible refine (laws_likeInts.calls k _ _ t106 _ _ t110 false _ ?side1 ?side2 ?side3 ?side4 A22.out).mono ?_); (case side1 => exact zC (Kd.R_reads' HO108.out).2.2); (case side2 => exact (Kd.R_reads' HO108.out).2.1); (case side3 => exact zC (Kd.R_reads' HO112.out).2.2); (case side4 => exact (Kd.R_reads' HO112.out).2.1); rintro e w' ⟨rfl, ⟨nd, rfl⟩⟩; (try exact zd)))
    repeat (go_quiet (first | (go_at_call 10; (with_reducible refine (laws_likeInts.calls k _ _ t106 _ _ t110 false _ ?side1 ?side2 ?side3 ?side4 A22.out).mono ?_); (case side1 => exact zC (Kd.R_reads' HO108.out).2.2); (case side2 => exact (Kd.R_reads' HO108.out).2.1); (case side3 => exact zC (Kd.R_reads' HO112.out).2.2); (case side4 => exact (Kd.R_reads' HO112.out).2.1); rintro e w' ⟨rfl, ⟨nd, rfl⟩⟩; (try exact zd))); try go_wp2_with (first | (go_at_call 10; (with_reducible refine (laws_likeInts.calls k _ _ t106 _ _ t110 false _ ?side1 ?side2 ?side3 ?side4 A22.out).mono ?_); (case side1 => exact zC (Kd.R_reads' HO108.out).2.2); (case side2 => exact (Kd.R_reads' HO108.out).2.1); (case side3 => exact zC (Kd.R_reads' HO112.out).2.2); (case side4 => exact (Kd.R_reads' HO112.out).2.1); rintro e w' ⟨rfl, ⟨nd, rfl⟩⟩; (try exact zd))))
    go_meet
    case rel => exact ⟨_, (true), zF, H', ⟨by first | omega | exact Nat.le_refl _⟩, ⟨by refine zR ?_; exact Kd.R_mono HO108.out (fun _ hk => hk.1.2)⟩, ⟨by refine zR ?_; exact Kd.R_mono HO104.out (fun _ hk => hk.1.2)⟩, ⟨zG BK105.out⟩, ⟨zB⟩⟩
   rw [if_neg c21] at H
   have c21b0 : (t109 == t113) = false := beq_eq_false_iff_ne.mpr c21
   have c21b1 : (t109 != t113) = true := bne_iff_ne.mpr c21
   (first | rw [c21b0] | (simp only [i64_w, i32_w]; rw [c21b0]) | skip)
   have H' := Aside0.mk H
   clear H
   go_wp2
   repeat (go_quiet (fail); try go_wp2)
   go_meet
   case rel => exact ⟨_, (true), zF, H', ⟨by first | omega | exact Nat.le_refl _⟩, ⟨by refine zR ?_; exact Kd.R_mono HO108.out (fun _ hk => hk.1.2)⟩, ⟨by refine zR ?_; exact Kd.R_mono HO104.out (fun _ hk => hk.1.2)⟩, ⟨zG BK105.out⟩, ⟨zB⟩⟩
 case rest =>
  as_aux_lemma =>
   clear HC9
   try clear c3
   try clear hcz13_0
   try clear hcz15_0
   try clear hcz17_0
   try clear hcz19_0
   try clear hfz13_0
   try clear hfz15_0
   try clear hfz17_0
   try clear hfz19_0
   obtain ⟨kq, x83_8, rfl, HA, HJ8, HO_4, HO_106000, BK105, HB⟩ := hcut
   cases kq with
   | zero => exact absurd HA.out (by simp [laws_FnHarmonic.j0])
   | succ kj8 =>
     have H := HA.out
     clear HA
     simp only [laws_FnHarmonic.j0] at H
     by_cases c31 : x83_8 = true
     · subst c31
       have H1 : (some false) = some r := by rw [if_pos rfl] at H; exact H
       clear H
       have H := H1
       clear H1
       obtain rfl := Option.some.inj H
       go_wp2
       repeat (go_quiet (fail); try go_wp2)
       go_ret
       exact ⟨zE, zB⟩
     · replace c31 := Bool.eq_false_iff.mpr c31
       subst c31
       have H1 : (if t115 = 0 then ((impl_DensityOf.f kj8 t102).bind fun bt119 => (if bt119.2.2 = 0 then (if (t114 != (t109 != 5)) = true then (some false) else (if t114 = true then (if ((t109 == 0) != (decide (bt119.1 ≤ bt119.2.1))) = true then (some false) else (laws_FnHarmonic.j1 kj8 l0 t106 t109 t102)) else (laws_FnHarmonic.j1 kj8 l0 t106 t109 t102))) else (some false))) else (laws_FnHarmonic.j1 kj8 l0 t106 t109 t102)) = some r := by rw [if_neg (show ¬ (false = true) by decide)] at H; exact H
       clear H
       have H := H1
       clear H1
       have HC32 := Aside0.mk H
       clear H
       go_upto_if 85 with (fail)
       repeat (go_quiet (fail); go_upto_if 85 with (fail))
       go_cut [] (fun wc => ∃ (kq : Nat), Aside0 (laws_FnHarmonic.j1 kq l0 t106 t109 t102 = some r) ∧ Aside0 (kq ≤ kj8) ∧ Aside0 (Kd.R (Kd.int .i64) 2 wc w.heap.size (fun k_ => some k_ ≠ ((.slice Ao12 t102.length co12) : Value).ownBlock) v107 t106) ∧ Aside0 (Kd.R (Kd.int .i64) 2 wc w.heap.size (fun k_ => some k_ ≠ (v107 : Value).ownBlock) (.slice Ao12 t102.length co12) t102) ∧ Aside0 (wc.heap[gb105]? = some (.cells #[(.slice Ao12 t102.length co12)] 26 (0, 0))) ∧ Aside0 (Below w.heap.size w wc))
       case first =>
         as_aux_lemma =>
          have H := HC32.out
          clear HC32
          by_cases c33 : t115 = 0
          · rw [if_pos c33] at H
            have c33b0 : (t115 == 0) = true := beq_iff_eq.mpr c33
            have c33b1 : (t115 != 0) = false := bne_eq_false_iff_eq.mpr c33
            clear c33
            (first | rw [c33b0] | (simp only [i64_w, i32_w]; rw [c33b0]) | skip)
            replace H := Option.bind_eq_some_iff.mp H
            obtain ⟨⟨t119, t120, t121⟩, A340, H⟩ := H
            replace H : (if t121 = 0 then (if (t114 != (t109 != 5)) = true then (some false) else (if t114 = true then (if ((t109 == 0) != (decide (t119 ≤ t120))) = true then (some false) else (laws_FnHarmonic.j1 kj8 l0 t106 t109 t102)) else (laws_FnHarmonic.j1 kj8 l0 t106 t109 t102))) else (some false)) = some r := H
            have A34 := Aside0.mk A340
            clear A340
            by_cases c35 : t121 = 0
            · rw [if_pos c35] at H
              have c35b0 : (t121 == 0) = true := beq_iff_eq.mpr c35
              have c35b1 : (t121 != 0) = false := bne_eq_false_iff_eq.mpr c35
              clear c35
              by_cases c36 : (t114 != (t109 != 5)) = true
              · rw [if_pos c36] at H
                have c36b0 : (t114 != (t109 != 5)) = true := c36
                (try (have c36b1 : decide (t114 = (t109 != 5)) = false := by simpa using c36))
                (try (have c36b2 : (t114 == (t109 != 5)) = false := by simpa using c36))
                (try (have c36b3 : ¬ (t114 = (t109 != 5)) := by simpa using c36))
                clear c36
                obtain rfl := Option.some.inj H
                have hcz37_0 := zc BK105.out
                have hfz37_0 := blk_frozen BK105.out 0
                go_wp2_with (first | (go_at_call 11; (with_reducible refine (impl_DensityOf.calls kj8 _ _ t102 t119 t120 t121 _ ?side1 ?side2 A34.out).mono ?_); (case side1 => exact zC (Kd.R_reads' HO_106000.out).2.2); (case side2 => exact (Kd.R_reads' HO_106000.out).2.1); rintro e w38 ⟨rfl, hb⟩; have n_ := y4 (Kd.R_below (zR HO_4.out) hb) (Kd.R_below (zR HO_106000.out) hb) (zb BK105.out hb) (below_step (zB) hb); clear HO_4 HO_106000 BK105 HB; obtain ⟨HO_4, HO_106000, BK105, HB⟩ := n_; (try clear hb); (try clear hb2); (try clear hk); (try clear hi)))
                repeat (go_quiet (fail); try go_wp2)
                go_ret
                exact ⟨zE, zB⟩
              · rw [if_neg c36] at H
                have c36b0 : (t114 != (t109 != 5)) = false := by simpa using c36
                (try (have c36b1 : decide (t114 = (t109 != 5)) = true := by simpa using c36))
                (try (have c36b2 : (t114 == (t109 != 5)) = true := by simpa using c36))
                clear c36
                by_cases c39 : t114 = true
                · subst c39
                  have H1 : (if ((t109 == 0) != (decide (t119 ≤ t120))) = true then (some false) else (laws_FnHarmonic.j1 kj8 l0 t106 t109 t102)) = some r := by rw [if_pos rfl] at H; exact H
                  clear H
                  have H := H1
                  clear H1
                  by_cases c40 : ((t109 == 0) != (decide (t119 ≤ t120))) = true
                  · rw [if_pos c40] at H
                    have c40b0 : ((t109 == 0) != (decide (t119 ≤ t120))) = true := c40
                    (try (have c40b1 : decide ((t109 == 0) = (decide (t119 ≤ t120))) = false := by simpa using c40))
                    (try (have c40b2 : ((t109 == 0) == (decide (t119 ≤ t120))) = false := by simpa using c40))
                    (try (have c40b3 : ¬ ((t109 == 0) = (decide (t119 ≤ t120))) := by simpa using c40))
                    clear c40
                    obtain rfl := Option.some.inj H
                    have hcz41_0 := zc BK105.out
                    have hfz41_0 := blk_frozen BK105.out 0
                    go_wp2_with (first | (go_at_call 11; (with_reducible refine (impl_DensityOf.calls kj8 _ _ t102 t119 t120 t121 _ ?side1 ?side2 A34.out).mono ?_); (case side1 => exact zC (Kd.R_reads' HO_106000.out).2.2); (case side2 => exact (Kd.R_reads' HO_106000.out).2.1); rintro e w42 ⟨rfl, hb⟩; have n_ := y4 (Kd.R_below (zR HO_4.out) hb) (Kd.R_below (zR HO_106000.out) hb) (zb BK105.out hb) (below_step (zB) hb); clear HO_4 HO_106000 BK105 HB; obtain ⟨HO_4, HO_106000, BK105, HB⟩ := n_; (try clear hb); (try clear hb2); (try clear hk); (try clear hi)))
                    repeat (go_quiet (fail); try go_wp2)
                    go_ret
                    exact ⟨zE, zB⟩
                  · rw [if_neg c40] at H
                    have c40b0 : ((t109 == 0) != (decide (t119 ≤ t120))) = false := by simpa using c40
                    (try (have c40b1 : decide ((t109 == 0) = (decide (t119 ≤ t120))) = true := by simpa using c40))
                    (try (have c40b2 : ((t109 == 0) == (decide (t119 ≤ t120))) = true := by simpa using c40))
                    clear c40
                    have H' := Aside0.mk H
                    clear H
                    have hcz43_0 := zc BK105.out
                    have hfz43_0 := blk_frozen BK105.out 0
                    go_wp2_with (first | (go_at_call 11; (with_reducible refine (impl_DensityOf.calls kj8 _ _ t102 t119 t120 t121 _ ?side1 ?side2 A34.out).mono ?_); (case side1 => exact zC (Kd.R_reads' HO_106000.out).2.2); (case side2 => exact (Kd.R_reads' HO_106000.out).2.1); rintro e w44 ⟨rfl, hb⟩; have n_ := y4 (Kd.R_below (zR HO_4.out) hb) (Kd.R_below (zR HO_106000.out) hb) (zb BK105.out hb) (below_step (zB) hb); clear HO_4 HO_106000 BK105 HB; obtain ⟨HO_4, HO_106000, BK105, HB⟩ := n_; (try clear hb); (try clear hb2); (try clear hk); (try clear hi)))
                    repeat (go_quiet (fail); try go_wp2)
                    go_meet
                    case rel => exact ⟨_, H', ⟨by have := HJ8.out; first | omega | exact Nat.le_refl _⟩, ⟨zR HO_4.out⟩, ⟨zR HO_106000.out⟩, ⟨zG BK105.out⟩, ⟨zB⟩⟩
                · replace c39 := Bool.eq_false_iff.mpr c39
                  subst c39
                  have H1 : (laws_FnHarmonic.j1 kj8 l0 t106 t109 t102) = some r := by rw [if_neg (show ¬ (false = true) by decide)] at H; exact H
                  clear H
                  have H := H1
                  clear H1
                  have H' := Aside0.mk H
                  clear H
                  have hcz45_0 := zc BK105.out
                  have hfz45_0 := blk_frozen BK105.out 0
                  go_wp2_with (first | (go_at_call 11; (with_reducible refine (impl_DensityOf.calls kj8 _ _ t102 t119 t120 t121 _ ?side1 ?side2 A34.out).mono ?_); (case side1 => exact zC (Kd.R_reads' HO_106000.out).2.2); (case side2 => exact (Kd.R_reads' HO_106000.out).2.1); rintro e w46 ⟨rfl, hb⟩; have n_ := y4 (Kd.R_below (zR HO_4.out) hb) (Kd.R_below (zR HO_106000.out) hb) (zb BK105.out hb) (below_step (zB) hb); clear HO_4 HO_106000 BK105 HB; obtain ⟨HO_4, HO_106000, BK105, HB⟩ := n_; (try clear hb); (try clear hb2); (try clear hk); (try clear hi)))
                  repeat (go_quiet (fail); try go_wp2)
                  go_meet
                  case rel => exact ⟨_, H', ⟨by have := HJ8.out; first | omega | exact Nat.le_refl _⟩, ⟨zR HO_4.out⟩, ⟨zR HO_106000.out⟩, ⟨zG BK105.out⟩, ⟨zB⟩⟩
            · rw [if_neg c35] at H
              have c35b0 : (t121 == 0) = false := beq_eq_false_iff_ne.mpr c35
              have c35b1 : (t121 != 0) = true := bne_iff_ne.mpr c35
              obtain rfl := Option.some.inj H
              have hcz47_0 := zc BK105.out
              have hfz47_0 := blk_frozen BK105.out 0
              go_wp2_with (first | (go_at_call 11; (with_reducible refine (impl_DensityOf.calls kj8 _ _ t102 t119 t120 t121 _ ?side1 ?side2 A34.out).mono ?_); (case side1 => exact zC (Kd.R_reads' HO_106000.out).2.2); (case side2 => exact (Kd.R_reads' HO_106000.out).2.1); rintro e w48 ⟨rfl, hb⟩; have n_ := y4 (Kd.R_below (zR HO_4.out) hb) (Kd.R_below (zR HO_106000.out) hb) (zb BK105.out hb) (below_step (zB) hb); clear HO_4 HO_106000 BK105 HB; obtain ⟨HO_4, HO_106000, BK105, HB⟩ := n_; (try clear hb); (try clear hb2); (try clear hk); (try clear hi)))
              repeat (go_quiet (fail); try go_wp2)
              go_ret
              exact ⟨zE, zB⟩
          · rw [if_neg c33] at H
            have c33b0 : (t115 == 0) = false := beq_eq_false_iff_ne.mpr c33
            have c33b1 : (t115 != 0) = true := bne_iff_ne.mpr c33
            (first | rw [c33b0] | (simp only [i64_w, i32_w]; rw [c33b0]) | skip)
            have H' := Aside0.mk H
            clear H
            go_wp2
            repeat (go_quiet (fail); try go_wp2)
            go_meet
            case rel => exact ⟨_, H', ⟨by have := HJ8.out; first | omega | exact Nat.le_refl _⟩, ⟨zR HO_4.out⟩, ⟨zR HO_106000.out⟩, ⟨zG BK105.out⟩, ⟨zB⟩⟩
       case rest =>
         as_aux_lemma =>
          clear HC32
          try clear c3
          try clear c31
          try clear hcz13_0
          try clear hcz15_0
          try clear hcz17_0
          try clear hcz19_0
          try clear hfz13_0
          try clear hfz15_0
          try clear hfz17_0
          try clear hfz19_0
          obtain ⟨kq, HA, HJ31, HO_4, HO_106000, BK105, HB⟩ := hcut
          cases kq with
          | zero => exact absurd HA.out (by simp [laws_FnHarmonic.j1])
          | succ kj31 =>
            have H := HA.out
            clear HA
            simp only [laws_FnHarmonic.j1] at H
            have HC49 := Aside0.mk H
            clear H
            go_upto_if 112 with (fail)
            repeat (go_quiet (fail); go_upto_if 112 with (fail))
            go_cut [] (fun wc => ∃ (kq : Nat), Aside0 (laws_FnHarmonic.j2 kq l0 = some r) ∧ Aside0 (kq ≤ kj31) ∧ Aside0 (Kd.R (Kd.int .i64) 2 wc w.heap.size (fun _ => True) (.slice Ao12 t102.length co12) t102) ∧ Aside0 (wc.heap[gb105]? = some (.cells #[(.slice Ao12 t102.length co12)] 26 (0, 0))) ∧ Aside0 (Below w.heap.size w wc))
            case first =>
              as_aux_lemma =>
               have H := HC49.out
               clear HC49
               by_cases c50 : t109 = 0
               · rw [if_pos c50] at H
                 have c50b0 : (t109 == 0) = true := beq_iff_eq.mpr c50
                 have c50b1 : (t109 != 0) = false := bne_eq_false_iff_eq.mpr c50
                 clear c50
                 (first | rw [c50b0] | (simp only [i64_w, i32_w]; rw [c50b0]) | skip)
                 replace H := Option.bind_eq_some_iff.mp H
                 obtain ⟨⟨t122, t123⟩, A510, H⟩ := H
                 replace H : (if t123 = 0 then (if t122 = true then (laws_FnHarmonic.j2 kj31 l0) else (some false)) else (some false)) = some r := H
                 have A51 := Aside0.mk A510
                 clear A510
                 by_cases c52 : t123 = 0
                 · rw [if_pos c52] at H
                   have c52b0 : (t123 == 0) = true := beq_iff_eq.mpr c52
                   have c52b1 : (t123 != 0) = false := bne_eq_false_iff_eq.mpr c52
                   clear c52
                   by_cases c53 : t122 = true
                   · subst c53
                     have H1 : (laws_FnHarmonic.j2 kj31 l0) = some r := by rw [if_pos rfl] at H; exact H
                     clear H
                     have H := H1
                     clear H1
                     have H' := Aside0.mk H
                     clear H
                     have hcz54_0 := zc BK105.out
                     have hfz54_0 := blk_frozen BK105.out 0
                     obtain ⟨Ao55, co55, eo55⟩ := Kd.R_slice HO_4.out
                     subst eo55
                     go_wp2_with (first | (go_at_call 12; (with_reducible refine (impl_DoServe.calls kj31 _ _ t102 _ _ t106 true t123 _ ?side1 ?side2 ?side3 ?side4 A51.out).mono ?_); (case side1 => exact zC (Kd.R_reads' HO_106000.out).2.2); (case side2 => exact (Kd.R_reads' HO_106000.out).2.1); (case side3 => exact zC (Kd.R_reads' HO_4.out).2.2); (case side4 => exact (Kd.R_reads' HO_4.out).2.1); rintro e w56 ⟨rfl, hb⟩; have n_ := y4 (Kd.R_below (zR HO_4.out) hb) (Kd.R_below (zR HO_106000.out) hb) (zb BK105.out hb) (below_step (zB) hb); clear HO_4 HO_106000 BK105 HB; obtain ⟨HO_4, HO_106000, BK105, HB⟩ := n_; (try clear hb); (try clear hb2); (try clear hk); (try clear hi)))
                     repeat (go_quiet (fail); try go_wp2)
                     go_meet
                     case rel => exact ⟨_, H', ⟨by have := HJ8.out; have := HJ31.out; first | omega | exact Nat.le_refl _⟩, ⟨by refine zR ?_; exact Kd.R_mono HO_106000.out (fun _ hk => trivial)⟩, ⟨zG BK105.out⟩, ⟨zB⟩⟩
                   · replace c53 := Bool.eq_false_iff.mpr c53
                     subst c53
                     have H1 : (some false) = some r := by rw [if_neg (show ¬ (false = true) by decide)] at H; exact H
                     clear H
                     have H := H1
                     clear H1
                     obtain rfl := Option.some.inj H
                     have hcz57_0 := zc BK105.out
                     have hfz57_0 := blk_frozen BK105.out 0
                     obtain ⟨Ao58, co58, eo58⟩ := Kd.R_slice HO_4.out
                     subst eo58
                     go_wp2_with (first | (go_at_call 12; (with_reducible refine (impl_DoServe.calls kj31 _ _ t102 _ _ t106 false t123 _ ?side1 ?side2 ?side3 ?side4 A51.out).mono ?_); (case side1 => exact zC (Kd.R_reads' HO_106000.out).2.2); (case side2 => exact (Kd.R_reads' HO_106000.out).2.1); (case side3 => exact zC (Kd.R_reads' HO_4.out).2.2); (case side4 => exact (Kd.R_reads' HO_4.out).2.1); rintro e w59 ⟨rfl, hb⟩; have n_ := y4 (Kd.R_below (zR HO_4.out) hb) (Kd.R_below (zR HO_106000.out) hb) (zb BK105.out hb) (below_step (zB) hb); clear HO_4 HO_106000 BK105 HB; obtain ⟨HO_4, HO_106000, BK105, HB⟩ := n_; (try clear hb); (try clear hb2); (try clear hk); (try clear hi)))
                     repeat (go_quiet (fail); try go_wp2)
                     go_ret
                     exact ⟨zE, zB⟩
                 · rw [if_neg c52] at H
                   have c52b0 : (t123 == 0) = false := beq_eq_false_iff_ne.mpr c52
                   have c52b1 : (t123 != 0) = true := bne_iff_ne.mpr c52
                   obtain rfl := Option.some.inj H
                   have hcz60_0 := zc BK105.out
                   have hfz60_0 := blk_frozen BK105.out 0
                   obtain ⟨Ao61, co61, eo61⟩ := Kd.R_slice HO_4.out
                   subst eo61
                   go_wp2_with (first | (go_at_call 12; (with_reducible refine (impl_DoServe.calls kj31 _ _ t102 _ _ t106 t122 t123 _ ?side1 ?side2 ?side3 ?side4 A51.out).mono ?_); (case side1 => exact zC (Kd.R_reads' HO_106000.out).2.2); (case side2 => exact (Kd.R_reads' HO_106000.out).2.1); (case side3 => exact zC (Kd.R_reads' HO_4.out).2.2); (case side4 => exact (Kd.R_reads' HO_4.out).2.1); rintro e w62 ⟨rfl, hb⟩; have n_ := y4 (Kd.R_below (zR HO_4.out) hb) (Kd.R_below (zR HO_106000.out) hb) (zb BK105.out hb) (below_step (zB) hb); clear HO_4 HO_106000 BK105 HB; obtain ⟨HO_4, HO_106000, BK105, HB⟩ := n_; (try clear hb); (try clear hb2); (try clear hk); (try clear hi)))
                   repeat (go_quiet (fail); try go_wp2)
                   go_ret
                   exact ⟨zE, zB⟩
               · rw [if_neg c50] at H
                 have c50b0 : (t109 == 0) = false := beq_eq_false_iff_ne.mpr c50
                 have c50b1 : (t109 != 0) = true := bne_iff_ne.mpr c50
                 (first | rw [c50b0] | (simp only [i64_w, i32_w]; rw [c50b0]) | skip)
                 have H' := Aside0.mk H
                 clear H
                 go_wp2
                 repeat (go_quiet (fail); try go_wp2)
                 go_meet
                 case rel => exact ⟨_, H', ⟨by have := HJ8.out; have := HJ31.out; first | omega | exact Nat.le_refl _⟩, ⟨by refine zR ?_; exact Kd.R_mono HO_106000.out (fun _ hk => trivial)⟩, ⟨zG BK105.out⟩, ⟨zB⟩⟩
            case rest =>
              as_aux_lemma =>
               clear HC49
               try clear c3
               try clear c31
               try clear hcz13_0
               try clear hcz15_0
               try clear hcz17_0
               try clear hcz19_0
               try clear hfz13_0
               try clear hfz15_0
               try clear hfz17_0
               try clear hfz19_0
               obtain ⟨kq, HA, HJ48, HO_106000, BK105, HB⟩ := hcut
               cases kq with
               | zero => exact absurd HA.out (by simp [laws_FnHarmonic.j2])
               | succ kj48 =>
                 have H := HA.out
                 clear HA
                 simp only [laws_FnHarmonic.j2] at H
                 replace H := Option.bind_eq_some_iff.mp H
                 obtain ⟨⟨t124, t127⟩, A630, H⟩ := H
                 replace H : ((impl_LessenGaps.f kj48 t124 t127).bind fun bt129 => ((spec_LessenGaps.f kj48 t124 t127).bind fun bt134 => (if bt129.2 = bt134.2 then ((laws_tasks5.f kj48 bt129.1 bt134.1).bind fun t139 => (laws_FnHarmonic.j3 kj48 l0 t127 bt129.2 (!t139) t124 bt129.1)) else (laws_FnHarmonic.j3 kj48 l0 t127 bt129.2 true t124 bt129.1)))) = some r := H
                 have A63 := Aside0.mk A630
                 clear A630
                 replace H := Option.bind_eq_some_iff.mp H
                 obtain ⟨⟨t129, t132⟩, A640, H⟩ := H
                 replace H : ((spec_LessenGaps.f kj48 t124 t127).bind fun bt134 => (if t132 = bt134.2 then ((laws_tasks5.f kj48 t129 bt134.1).bind fun t139 => (laws_FnHarmonic.j3 kj48 l0 t127 t132 (!t139) t124 t129)) else (laws_FnHarmonic.j3 kj48 l0 t127 t132 true t124 t129))) = some r := H
                 have A64 := Aside0.mk A640
                 clear A640
                 replace H := Option.bind_eq_some_iff.mp H
                 obtain ⟨⟨t134, t137⟩, A650, H⟩ := H
                 replace H : (if t132 = t137 then ((laws_tasks5.f kj48 t129 t134).bind fun t139 => (laws_FnHarmonic.j3 kj48 l0 t127 t132 (!t139) t124 t129)) else (laws_FnHarmonic.j3 kj48 l0 t127 t132 true t124 t129)) = some r := H
                 have A65 := Aside0.mk A650
                 clear A650
                 have HC66 := Aside0.mk H
                 clear H
                 go_upto_region 21 with (first | (go_at_call 13; (with_reducible refine (spec_DrawLessenGaps.calls kj48 _ _ l0 t124 t127 _ ?side1 ?side2 A63.out).mono ?_); (case side1 => exact zC (Kd.C_below HR0.out HB.out)); (case side2 => exact HC0.out); rintro e w67 ⟨v125, rfl, ho0, hb⟩; have n_ := y4 (Kd.R_elder' (zR HO_106000.out) (Kd.R_base ho0) hb) (Kd.R_lower (Kd.R_new' ho0 (Kd.R_lt (zR HO_106000.out))) (below_size (zB))) (zb BK105.out hb) (below_step (zB) hb); clear HO_106000 BK105 HB; obtain ⟨HO_106000, HO126, BK105, HB⟩ := n_; (try clear hb); (try clear hb2); (try clear hk); (try clear hi); (try clear ho0)) | ((with_reducible refine gate_dst (N := 17) rfl ?_); (try (refine gate_guard (by rfl) ?_; dsimp only)); refine box_event zr (N := 17) zr (cs := #[.slice none 0 0]) (t := 26) zg ?_; intro gb128 hg w68 hbox hb; have n_ := y9 (Kd.R_below (zR HO_106000.out) hb) (Kd.R_below (zR HO126.out) hb) (zb BK105.out hb) (below_step (zB) hb) (hbox) ((zS hg : w.heap.size ≤ gb128)) ((zS hg : w.heap.size ≤ gb128)) ((zL hg BK105.out : gb105 ≠ gb128)) ((zM hg BK105.out : gb128 ≠ gb105)); clear HO_106000 HO126 BK105 HB; obtain ⟨HO_106000, HO126, BK105, HB, BK128, GW128, GE128, NB105_128, NB128_105⟩ := n_; clear hb hbox hg; obtain ⟨Ao69, co69, eo69⟩ := Kd.R_slice HO126.out; subst eo69; have hnb70 := NB128_105.out; have hnc70 := NB105_128.out; have hcz71_0 := zc BK128.out; have hfz71_0 := blk_frozen BK128.out 0) | (go_at_call 14; (with_reducible refine (impl_LessenGaps.calls kj48 _ _ t124 t127 t129 t132 _ ?side1 ?side2 A64.out).mono ?_); (case side1 => refine (Kd.R_reads' (e := 2) (base := w.heap.size) (ok := fun k_ => (True ∧ some k_ ≠ (.slice Ao12 t102.length co12 : Value).ownBlock)) (n := t124.length) (c := co69) ?_).2.2; exact (by refine zR ?_; exact (Kd.R_mono (Kd.R_far (p := ⟨gb128, 0, none⟩) (Kd.R_types HO126.out BK128.out (by decide)) (fun _ hk => hk.2) (.slice Ao69 t124.length co69)) (fun _ h_ => h_.1)))); (case side2 => exact (Kd.R_reads' HO126.out).2.1); rintro e w72 ⟨v130, rfl, ho0, hb⟩; have n_ := y6 (Kd.R_elder' (by refine zR ?_; exact (Kd.R_mono (Kd.R_far (p := ⟨gb128, 0, none⟩) (Kd.R_types HO_106000.out BK128.out (by decide)) (fun _ hk => hk.2) (.slice Ao69 t124.length co69)) (fun _ h_ => h_.1))) (Kd.R_base ho0) hb) (Kd.R_elder' (by refine zR ?_; exact (Kd.R_mono (Kd.R_far (p := ⟨gb128, 0, none⟩) (Kd.R_types HO126.out BK128.out (by decide)) (fun _ hk => hk.2) (.slice Ao69 t124.length co69)) (fun _ h_ => h_.1))) (Kd.R_base ho0) hb) (Kd.R_lower (Kd.R_new' (Kd.R_new' ho0 (Kd.R_lt (by refine zR ?_; exact (Kd.R_mono (Kd.R_far (p := ⟨gb128, 0, none⟩) (Kd.R_types HO_106000.out BK128.out (by decide)) (fun _ hk => hk.2) (.slice Ao69 t124.length co69)) (fun _ h_ => h_.1))))) (Kd.R_lt (by refine zR ?_; exact (Kd.R_mono (Kd.R_far (p := ⟨gb128, 0, none⟩) (Kd.R_types HO126.out BK128.out (by decide)) (fun _ hk => hk.2) (.slice Ao69 t124.length co69)) (fun _ h_ => h_.1))))) (below_size (zB))) (blk_below (g := gb105) (o := .cells #[.slice Ao12 t102.length co12] 26 (0, 0)) (by refine zG ?_; refine blk_far ?_ NB105_128.out _; refine zG ?_; exact BK105.out) hb) (blk_below (g := gb128) (o := .cells #[.slice Ao69 t124.length co69] 26 (0, 0)) (by refine zG ?_; refine blk_put (cs := #[.slice none 0 0]) ?_ 0 _ rfl; refine zG ?_; exact BK128.out) hb) (below_step (zB) hb); clear HO_106000 HO126 BK105 BK128 HB; obtain ⟨HO_106000, HO126, HO131, BK105, BK128, HB⟩ := n_; (try clear hb); (try clear hb2); (try clear hk); (try clear hi); (try clear ho0)) | ((with_reducible refine gate_dst (N := 19) rfl ?_); (try (refine gate_guard (by rfl) ?_; dsimp only)); refine box_event zr (N := 19) zr (cs := #[.slice none 0 0]) (t := 26) zg ?_; intro gb133 hg w73 hbox hb; have n_ := y13 (Kd.R_below (zR HO_106000.out) hb) (Kd.R_below (zR HO126.out) hb) (Kd.R_below (zR HO131.out) hb) (zb BK105.out hb) (zb BK128.out hb) (below_step (zB) hb) (hbox) ((zS hg : w.heap.size ≤ gb133)) ((zS hg : w.heap.size ≤ gb133)) ((zL hg BK105.out : gb105 ≠ gb133)) ((zM hg BK105.out : gb133 ≠ gb105)) ((zL hg BK128.out : gb128 ≠ gb133)) ((zM hg BK128.out : gb133 ≠ gb128)); clear HO_106000 HO126 HO131 BK105 BK128 HB; obtain ⟨HO_106000, HO126, HO131, BK105, BK128, HB, BK133, GW133, GE133, NB105_133, NB133_105, NB128_133, NB133_128⟩ := n_; clear hb hbox hg; obtain ⟨Ao74, co74, eo74⟩ := Kd.R_slice HO131.out; subst eo74; have hnb75 := NB133_105.out; have hnc75 := NB105_133.out; have hnb76 := NB133_128.out; have hnc76 := NB128_133.out; have hcz77_0 := zc BK133.out; have hfz77_0 := blk_frozen BK133.out 0; have hcz78_0 := zc BK128.out; have hfz78_0 := blk_frozen BK128.out 0) | (go_at_call 15; (with_reducible refine (spec_LessenGaps.calls kj48 _ _ t124 t127 t134 t137 _ ?side1 ?side2 A65.out).mono ?_); (case side1 => refine (Kd.R_reads' (e := 2) (base := w.heap.size) (ok := fun k_ => ((True ∧ some k_ ≠ (.slice Ao12 t102.length co12 : Value).ownBlock) ∧ some k_ ≠ (.slice Ao74 t129.length co74 : Value).ownBlock)) (n := t124.length) (c := co69) ?_).2.2; exact (by refine zR ?_; exact (Kd.R_mono (Kd.R_far (p := ⟨gb133, 0, none⟩) (Kd.R_types HO126.out BK133.out (by decide)) (fun _ hk => hk.2) (.slice Ao74 t129.length co74)) (fun _ h_ => h_.1)))); (case side2 => exact (Kd.R_reads' HO126.out).2.1); rintro e w79 ⟨v135, rfl, ho0, hb⟩; have n_ := y8 (Kd.R_elder' (by refine zR ?_; exact (Kd.R_mono (Kd.R_far (p := ⟨gb133, 0, none⟩) (Kd.R_types HO_106000.out BK133.out (by decide)) (fun _ hk => hk.2) (.slice Ao74 t129.length co74)) (fun _ h_ => h_.1))) (Kd.R_base ho0) hb) (Kd.R_elder' (by refine zR ?_; exact (Kd.R_mono (Kd.R_far (p := ⟨gb133, 0, none⟩) (Kd.R_types HO126.out BK133.out (by decide)) (fun _ hk => hk.2) (.slice Ao74 t129.length co74)) (fun _ h_ => h_.1))) (Kd.R_base ho0) hb) (Kd.R_elder' (by refine zR ?_; exact (Kd.R_mono (Kd.R_far (p := ⟨gb133, 0, none⟩) (Kd.R_types HO131.out BK133.out (by decide)) (fun _ hk => hk.2) (.slice Ao74 t129.length co74)) (fun _ h_ => h_.1))) (Kd.R_base ho0) hb) (Kd.R_lower (Kd.R_new' (Kd.R_new' (Kd.R_new' ho0 (Kd.R_lt (by refine zR ?_; exact (Kd.R_mono (Kd.R_far (p := ⟨gb133, 0, none⟩) (Kd.R_types HO_106000.out BK133.out (by decide)) (fun _ hk => hk.2) (.slice Ao74 t129.length co74)) (fun _ h_ => h_.1))))) (Kd.R_lt (by refine zR ?_; exact (Kd.R_mono (Kd.R_far (p := ⟨gb133, 0, none⟩) (Kd.R_types HO126.out BK133.out (by decide)) (fun _ hk => hk.2) (.slice Ao74 t129.length co74)) (fun _ h_ => h_.1))))) (Kd.R_lt (by refine zR ?_; exact (Kd.R_mono (Kd.R_far (p := ⟨gb133, 0, none⟩) (Kd.R_types HO131.out BK133.out (by decide)) (fun _ hk => hk.2) (.slice Ao74 t129.length co74)) (fun _ h_ => h_.1))))) (below_size (zB))) (blk_below (g := gb105) (o := .cells #[.slice Ao12 t102.length co12] 26 (0, 0)) (by refine zG ?_; refine blk_far ?_ NB105_133.out _; refine zG ?_; exact BK105.out) hb) (blk_below (g := gb128) (o := .cells #[.slice Ao69 t124.length co69] 26 (0, 0)) (by refine zG ?_; refine blk_far ?_ NB128_133.out _; refine zG ?_; exact BK128.out) hb) (blk_below (g := gb133) (o := .cells #[.slice Ao74 t129.length co74] 26 (0, 0)) (by refine zG ?_; refine blk_put (cs := #[.slice none 0 0]) ?_ 0 _ rfl; refine zG ?_; exact BK133.out) hb) (below_step (zB) hb); clear HO_106000 HO126 HO131 BK105 BK128 BK133 HB; obtain ⟨HO_106000, HO126, HO131, HO136, BK105, BK128, BK133, HB⟩ := n_; (try clear hb); (try clear hb2); (try clear hk); (try clear hi); (try clear ho0)) | ((with_reducible refine gate_dst (N := 21) rfl ?_); (try (refine gate_guard (by rfl) ?_; dsimp only)); refine box_event zr (N := 21) zr (cs := #[.slice none 0 0]) (t := 26) zg ?_; intro gb138 hg w80 hbox hb; have n0_ := Aside0.mk (Kd.R_below (zR HO_106000.out) hb); have n1_ := Aside0.mk (Kd.R_below (zR HO126.out) hb); have n2_ := Aside0.mk (Kd.R_below (zR HO131.out) hb); have n3_ := Aside0.mk (Kd.R_below (zR HO136.out) hb); have n4_ := Aside0.mk (zb BK105.out hb); have n5_ := Aside0.mk (zb BK128.out hb); have n6_ := Aside0.mk (zb BK133.out hb); have n7_ := Aside0.mk (below_step (zB) hb); have n8_ := Aside0.mk (hbox); have n9_ := Aside0.mk ((zS hg : w.heap.size ≤ gb138)); have n10_ := Aside0.mk ((zS hg : w.heap.size ≤ gb138)); have n11_ := Aside0.mk ((zL hg BK105.out : gb105 ≠ gb138)); have n12_ := Aside0.mk ((zM hg BK105.out : gb138 ≠ gb105)); have n13_ := Aside0.mk ((zL hg BK128.out : gb128 ≠ gb138)); have n14_ := Aside0.mk ((zM hg BK128.out : gb138 ≠ gb128)); have n15_ := Aside0.mk ((zL hg BK133.out : gb133 ≠ gb138)); have n16_ := Aside0.mk ((zM hg BK133.out : gb138 ≠ gb133)); clear HO_106000; clear HO126; clear HO131; clear HO136; clear BK105; clear BK128; clear BK133; clear HB; have HO_106000 := n0_; have HO126 := n1_; have HO131 := n2_; have HO136 := n3_; have BK105 := n4_; have BK128 := n5_; have BK133 := n6_; have HB := n7_; have BK138 := n8_; have GW138 := n9_; have GE138 := n10_; have NB105_138 := n11_; have NB138_105 := n12_; have NB128_138 := n13_; have NB138_128 := n14_; have NB133_138 := n15_; have NB138_133 := n16_; clear n0_ n1_ n2_ n3_ n4_ n5_ n6_ n7_ n8_ n9_ n10_ n11_ n12_ n13_ n14_ n15_ n16_; clear hb hbox hg; obtain ⟨Ao81, co81, eo81⟩ := Kd.R_slice HO136.out; subst eo81; have hnb82 := NB138_105.out; have hnc82 := NB105_138.out; have hnb83 := NB138_128.out; have hnc83 := NB128_138.out; have hnb84 := NB138_133.out; have hnc84 := NB133_138.out; have hcz85_0 := zc BK138.out; have hfz85_0 := blk_frozen BK138.out 0))
                 repeat (go_quiet (fail); go_upto_region 21 with (fail))
                 (try simp only [Act.put, List.setIfInBounds_toArray, List.set_cons_zero, List.set_cons_succ])
                 go_cut [150] (fun v150 wc => ∃ (kq : Nat) (x150_65 : Bool), v150 = .bool x150_65 ∧ Aside0 (laws_FnHarmonic.j3 kq l0 t127 t132 x150_65 t124 t129 = some r) ∧ Aside0 (kq ≤ kj48) ∧ Aside0 (Kd.R (Kd.int .i64) 2 wc w.heap.size (fun k_ => some k_ ≠ ((.slice Ao69 t124.length co69) : Value).ownBlock ∧ some k_ ≠ ((.slice Ao74 t129.length co74) : Value).ownBlock ∧ some k_ ≠ ((.slice Ao81 t134.length co81) : Value).ownBlock) (.slice Ao12 t102.length co12) t102) ∧ Aside0 (Kd.R (Kd.int .i64) 2 wc w.heap.size (fun k_ => some k_ ≠ ((.slice Ao12 t102.length co12) : Value).ownBlock ∧ some k_ ≠ ((.slice Ao74 t129.length co74) : Value).ownBlock ∧ some k_ ≠ ((.slice Ao81 t134.length co81) : Value).ownBlock) (.slice Ao69 t124.length co69) t124) ∧ Aside0 (Kd.R (Kd.int .i64) 2 wc w.heap.size (fun k_ => some k_ ≠ ((.slice Ao12 t102.length co12) : Value).ownBlock ∧ some k_ ≠ ((.slice Ao69 t124.length co69) : Value).ownBlock ∧ some k_ ≠ ((.slice Ao81 t134.length co81) : Value).ownBlock) (.slice Ao74 t129.length co74) t129) ∧ Aside0 (Kd.R (Kd.int .i64) 2 wc w.heap.size (fun k_ => some k_ ≠ ((.slice Ao12 t102.length co12) : Value).ownBlock ∧ some k_ ≠ ((.slice Ao69 t124.length co69) : Value).ownBlock ∧ some k_ ≠ ((.slice Ao74 t129.length co74) : Value).ownBlock) (.slice Ao81 t134.length co81) t134) ∧ Aside0 (wc.heap[gb105]? = some (.cells #[(.slice Ao12 t102.length co12)] 26 (0, 0))) ∧ Aside0 (wc.heap[gb128]? = some (.cells #[(.slice Ao69 t124.length co69)] 26 (0, 0))) ∧ Aside0 (wc.heap[gb133]? = some (.cells #[(.slice Ao74 t129.length co74)] 26 (0, 0))) ∧ Aside0 (wc.heap[gb138]? = some (.cells #[(.slice Ao81 t134.length co81)] 26 (0, 0))) ∧ Aside0 (Below w.heap.size w wc))
                 case first =>
                   as_aux_lemma =>
                    have H := HC66.out
                    clear HC66
                    by_cases c86 : t132 = t137
                    · rw [if_pos c86] at H
                      have c86b0 : (t132 == t137) = true := beq_iff_eq.mpr c86
                      have c86b1 : (t132 != t137) = false := bne_eq_false_iff_eq.mpr c86
                      clear c86
                      (first | rw [c86b0] | (simp only [i64_w, i32_w]; rw [c86b0]) | skip)
                      replace H := Option.bind_eq_some_iff.mp H
                      obtain ⟨t139, A870, H⟩ := H
                      replace H : (laws_FnHarmonic.j3 kj48 l0 t127 t132 (!t139) t124 t129) = some r := H
                      have A87 := Aside0.mk A870
                      clear A870
                      have H' := Aside0.mk H
                      clear H
                      have hnb88 := NB133_105.out
                      have hnc88 := NB105_133.out
                      have hnb89 := NB133_128.out
                      have hnc89 := NB128_133.out
                      have hnb90 := NB133_138.out
                      have hnc90 := NB138_133.out
                      have hcz91_0 := zc BK133.out
                      have hfz91_0 := blk_frozen BK133.out 0
                      have hnb92 := NB138_105.out
                      have hnc92 := NB105_138.out
                      have hnb93 := NB138_128.out
                      have hnc93 := NB128_138.out
                      have hcz94_0 := zc BK138.out
                      have hfz94_0 := blk_frozen BK138.out 0
                      go_wp2_with (first | (go_at_call 16; (with_reducible refine (laws_tasks5.calls kj48 _ _ t129 _ _ t134 t139 _ ?side1 ?side2 ?side3 ?side4 A87.out).mono ?_); (case side1 => refine (Kd.R_reads' (e := 2) (base := w.heap.size) (ok := fun k_ => (((True ∧ some k_ ≠ (.slice Ao12 t102.length co12 : Value).ownBlock) ∧ some k_ ≠ (.slice Ao69 t124.length co69 : Value).ownBlock) ∧ some k_ ≠ (.slice Ao81 t134.length co81 : Value).ownBlock)) (n := t129.length) (c := co74) ?_).2.2; exact (by refine zR ?_; exact (Kd.R_mono (Kd.R_far (p := ⟨gb138, 0, none⟩) (Kd.R_types HO131.out BK138.out (by decide)) (fun _ hk => hk.2) (.slice Ao81 t134.length co81)) (fun _ h_ => h_.1)))); (case side2 => exact (Kd.R_reads' HO131.out).2.1); (case side3 => refine (Kd.R_reads' (e := 2) (base := w.heap.size) (ok := fun k_ => (((True ∧ some k_ ≠ (.slice Ao12 t102.length co12 : Value).ownBlock) ∧ some k_ ≠ (.slice Ao69 t124.length co69 : Value).ownBlock) ∧ some k_ ≠ (.slice Ao74 t129.length co74 : Value).ownBlock)) (n := t134.length) (c := co81) ?_).2.2; exact (by refine zR ?_; exact (Kd.R_mono (Kd.R_far (p := ⟨gb138, 0, none⟩) (Kd.R_types HO136.out BK138.out (by decide)) (fun _ hk => hk.2) (.slice Ao81 t134.length co81)) (fun _ h_ => h_.1)))); (case side4 => exact (Kd.R_reads' HO136.out).2.1); rintro e w95 ⟨rfl, hb⟩; have n_ := y9 (Kd.R_below (by refine zR ?_; exact (Kd.R_mono (Kd.R_far (p := ⟨gb138, 0, none⟩) (Kd.R_types HO_106000.out BK138.out (by decide)) (fun _ hk => hk.2) (.slice Ao81 t134.length co81)) (fun _ h_ => h_.1))) hb) (Kd.R_below (by refine zR ?_; exact (Kd.R_mono (Kd.R_far (p := ⟨gb138, 0, none⟩) (Kd.R_types HO126.out BK138.out (by decide)) (fun _ hk => hk.2) (.slice Ao81 t134.length co81)) (fun _ h_ => h_.1))) hb) (Kd.R_below (by refine zR ?_; exact (Kd.R_mono (Kd.R_far (p := ⟨gb138, 0, none⟩) (Kd.R_types HO131.out BK138.out (by decide)) (fun _ hk => hk.2) (.slice Ao81 t134.length co81)) (fun _ h_ => h_.1))) hb) (Kd.R_below (by refine zR ?_; exact (Kd.R_mono (Kd.R_far (p := ⟨gb138, 0, none⟩) (Kd.R_types HO136.out BK138.out (by decide)) (fun _ hk => hk.2) (.slice Ao81 t134.length co81)) (fun _ h_ => h_.1))) hb) (blk_below (g := gb105) (o := .cells #[.slice Ao12 t102.length co12] 26 (0, 0)) (by refine zG ?_; refine blk_far ?_ NB105_138.out _; refine zG ?_; exact BK105.out) hb) (blk_below (g := gb128) (o := .cells #[.slice Ao69 t124.length co69] 26 (0, 0)) (by refine zG ?_; refine blk_far ?_ NB128_138.out _; refine zG ?_; exact BK128.out) hb) (blk_below (g := gb133) (o := .cells #[.slice Ao74 t129.length co74] 26 (0, 0)) (by refine zG ?_; refine blk_far ?_ NB133_138.out _; refine zG ?_; exact BK133.out) hb) (blk_below (g := gb138) (o := .cells #[.slice Ao81 t134.length co81] 26 (0, 0)) (by refine zG ?_; refine blk_put (cs := #[.slice none 0 0]) ?_ 0 _ rfl; refine zG ?_; exact BK138.out) hb) (below_step (zB) hb); clear HO_106000 HO126 HO131 HO136 BK105 BK128 BK133 BK138 HB; obtain ⟨HO_106000, HO126, HO131, HO136, BK105, BK128, BK133, BK138, HB⟩ := n_; (try clear hb); (try clear hb2); (try clear hk); (try clear hi)))
                      repeat (go_quiet (fail); try go_wp2)
                      go_meet
                      case rel => exact ⟨_, (!t139), zF, H', ⟨by have := HJ8.out; have := HJ31.out; have := HJ48.out; first | omega | exact Nat.le_refl _⟩, ⟨by refine zR ?_; exact Kd.R_mono HO_106000.out (fun _ hk => ⟨hk.1.1.2, ⟨hk.1.2, hk.2⟩⟩)⟩, ⟨by refine zR ?_; exact Kd.R_mono HO126.out (fun _ hk => ⟨hk.1.1.2, ⟨hk.1.2, hk.2⟩⟩)⟩, ⟨by refine zR ?_; exact Kd.R_mono HO131.out (fun _ hk => ⟨hk.1.1.2, ⟨hk.1.2, hk.2⟩⟩)⟩, ⟨by refine zR ?_; exact Kd.R_mono HO136.out (fun _ hk => ⟨hk.1.1.2, ⟨hk.1.2, hk.2⟩⟩)⟩, ⟨zG BK105.out⟩, ⟨zG BK128.out⟩, ⟨zG BK133.out⟩, ⟨zG BK138.out⟩, ⟨zB⟩⟩
                    · rw [if_neg c86] at H
                      have c86b0 : (t132 == t137) = false := beq_eq_false_iff_ne.mpr c86
                      have c86b1 : (t132 != t137) = true := bne_iff_ne.mpr c86
                      (first | rw [c86b0] | (simp only [i64_w, i32_w]; rw [c86b0]) | skip)
                      have H' := Aside0.mk H
                      clear H
                      go_wp2
                      repeat (go_quiet (fail); try go_wp2)
                      go_meet
                      case rel => exact ⟨_, (true), zF, H', ⟨by have := HJ8.out; have := HJ31.out; have := HJ48.out; first | omega | exact Nat.le_refl _⟩, ⟨by refine zR ?_; exact Kd.R_mono (Kd.R_far (p := ⟨gb138, 0, none⟩) (Kd.R_types HO_106000.out BK138.out (by decide)) (fun _ hk => hk.2) (.slice Ao81 t134.length co81)) (fun _ hk => ⟨hk.1.1.1.2, ⟨hk.1.1.2, hk.1.2⟩⟩)⟩, ⟨by refine zR ?_; exact Kd.R_mono (Kd.R_far (p := ⟨gb138, 0, none⟩) (Kd.R_types HO126.out BK138.out (by decide)) (fun _ hk => hk.2) (.slice Ao81 t134.length co81)) (fun _ hk => ⟨hk.1.1.1.2, ⟨hk.1.1.2, hk.1.2⟩⟩)⟩, ⟨by refine zR ?_; exact Kd.R_mono (Kd.R_far (p := ⟨gb138, 0, none⟩) (Kd.R_types HO131.out BK138.out (by decide)) (fun _ hk => hk.2) (.slice Ao81 t134.length co81)) (fun _ hk => ⟨hk.1.1.1.2, ⟨hk.1.1.2, hk.1.2⟩⟩)⟩, ⟨by refine zR ?_; exact Kd.R_mono (Kd.R_far (p := ⟨gb138, 0, none⟩) (Kd.R_types HO136.out BK138.out (by decide)) (fun _ hk => hk.2) (.slice Ao81 t134.length co81)) (fun _ hk => ⟨hk.1.1.1.2, ⟨hk.1.1.2, hk.1.2⟩⟩)⟩, ⟨by refine zG ?_; refine blk_far ?_ NB105_138.out _; refine zG ?_; exact BK105.out⟩, ⟨by refine zG ?_; refine blk_far ?_ NB128_138.out _; refine zG ?_; exact BK128.out⟩, ⟨by refine zG ?_; refine blk_far ?_ NB133_138.out _; refine zG ?_; exact BK133.out⟩, ⟨by refine zG ?_; refine blk_put (cs := #[.slice none 0 0]) ?_ 0 _ rfl; refine zG ?_; exact BK138.out⟩, ⟨zB⟩⟩
                 case rest =>
                   as_aux_lemma =>
                    clear HC66
                    try clear c3
                    try clear c31
                    try clear hcz13_0
                    try clear hcz15_0
                    try clear hcz17_0
                    try clear hcz19_0
                    try clear hcz71_0
                    try clear hcz77_0
                    try clear hcz78_0
                    try clear hcz85_0
                    try clear hfz13_0
                    try clear hfz15_0
                    try clear hfz17_0
                    try clear hfz19_0
                    try clear hfz71_0
                    try clear hfz77_0
                    try clear hfz78_0
                    try clear hfz85_0
                    obtain ⟨kq, x150_65, rfl, HA, HJ65, HO_106000, HO_129000, HO_134000, HO_139000, BK105, BK128, BK133, BK138, HB⟩ := hcut
                    cases kq with
                    | zero => exact absurd HA.out (by simp [laws_FnHarmonic.j3])
                    | succ kj65 =>
                      have H := HA.out
                      clear HA
                      simp only [laws_FnHarmonic.j3] at H
                      by_cases c96 : x150_65 = true
                      · subst c96
                        have H1 : (some false) = some r := by rw [if_pos rfl] at H; exact H
                        clear H
                        have H := H1
                        clear H1
                        obtain rfl := Option.some.inj H
                        go_wp2
                        repeat (go_quiet (fail); try go_wp2)
                        go_ret
                        exact ⟨zE, zB⟩
                      · replace c96 := Bool.eq_false_iff.mpr c96
                        subst c96
                        have H1 : (if t132 = 0 then ((impl_AreHarmonic.f t129).bind fun bt140 => (if bt140.2 = 0 then (if bt140.1 = true then (laws_FnHarmonic.j4 kj65 l0 t127 ((t129.length : Int) != (t124.length : Int)) t124 t129) else (laws_FnHarmonic.j4 kj65 l0 t127 true t124 t129)) else (laws_FnHarmonic.j4 kj65 l0 t127 true t124 t129))) else (laws_FnHarmonic.j6 kj65 l0)) = some r := by rw [if_neg (show ¬ (false = true) by decide)] at H; exact H
                        clear H
                        have H := H1
                        clear H1
                        have HC97 := Aside0.mk H
                        clear H
                        go_upto_if 152 with (fail)
                        repeat (go_quiet (fail); go_upto_if 152 with (fail))
                        go_cut [] (fun wc => ∃ (kq : Nat), Aside0 (laws_FnHarmonic.j6 kq l0 = some r) ∧ Aside0 (kq ≤ kj65) ∧ Aside0 (Kd.R (Kd.int .i64) 2 wc w.heap.size (fun k_ => some k_ ≠ ((.slice Ao69 t124.length co69) : Value).ownBlock ∧ some k_ ≠ ((.slice Ao74 t129.length co74) : Value).ownBlock ∧ some k_ ≠ ((.slice Ao81 t134.length co81) : Value).ownBlock) (.slice Ao12 t102.length co12) t102) ∧ Aside0 (Kd.R (Kd.int .i64) 2 wc w.heap.size (fun k_ => some k_ ≠ ((.slice Ao12 t102.length co12) : Value).ownBlock ∧ some k_ ≠ ((.slice Ao74 t129.length co74) : Value).ownBlock ∧ some k_ ≠ ((.slice Ao81 t134.length co81) : Value).ownBlock) (.slice Ao69 t124.length co69) t124) ∧ Aside0 (Kd.R (Kd.int .i64) 2 wc w.heap.size (fun k_ => some k_ ≠ ((.slice Ao12 t102.length co12) : Value).ownBlock ∧ some k_ ≠ ((.slice Ao69 t124.length co69) : Value).ownBlock ∧ some k_ ≠ ((.slice Ao81 t134.length co81) : Value).ownBlock) (.slice Ao74 t129.length co74) t129) ∧ Aside0 (Kd.R (Kd.int .i64) 2 wc w.heap.size (fun k_ => some k_ ≠ ((.slice Ao12 t102.length co12) : Value).ownBlock ∧ some k_ ≠ ((.slice Ao69 t124.length co69) : Value).ownBlock ∧ some k_ ≠ ((.slice Ao74 t129.length co74) : Value).ownBlock) (.slice Ao81 t134.length co81) t134) ∧ Aside0 (wc.heap[gb105]? = some (.cells #[(.slice Ao12 t102.length co12)] 26 (0, 0))) ∧ Aside0 (wc.heap[gb128]? = some (.cells #[(.slice Ao69 t124.length co69)] 26 (0, 0))) ∧ Aside0 (wc.heap[gb133]? = some (.cells #[(.slice Ao74 t129.length co74)] 26 (0, 0))) ∧ Aside0 (wc.heap[gb138]? = some (.cells #[(.slice Ao81 t134.length co81)] 26 (0, 0))) ∧ Aside0 (Below w.heap.size w wc))
                        case first =>
                          as_aux_lemma =>
                           have H := HC97.out
                           clear HC97
                           by_cases c98 : t132 = 0
                           · rw [if_pos c98] at H
                             have c98b0 : (t132 == 0) = true := beq_iff_eq.mpr c98
                             have c98b1 : (t132 != 0) = false := bne_eq_false_iff_eq.mpr c98
                             clear c98
                             (first | rw [c98b0] | (simp only [i64_w, i32_w]; rw [c98b0]) | skip)
                             replace H := Option.bind_eq_some_iff.mp H
                             obtain ⟨⟨t140, t141⟩, A990, H⟩ := H
                             replace H : (if t141 = 0 then (if t140 = true then (laws_FnHarmonic.j4 kj65 l0 t127 ((t129.length : Int) != (t124.length : Int)) t124 t129) else (laws_FnHarmonic.j4 kj65 l0 t127 true t124 t129)) else (laws_FnHarmonic.j4 kj65 l0 t127 true t124 t129)) = some r := H
                             have A99 := Aside0.mk A990
                             clear A990
                             have HC100 := Aside0.mk H
                             clear H
                             have hnb101 := NB133_105.out
                             have hnc101 := NB105_133.out
                             have hnb102 := NB133_128.out
                             have hnc102 := NB128_133.out
                             have hnb103 := NB133_138.out
                             have hnc103 := NB138_133.out
                             have hcz104_0 := zc BK133.out
                             have hfz104_0 := blk_frozen BK133.out 0
                             go_upto_region 25 with (first | (go_at_call 8; (with_reducible refine (impl_AreHarmonic.calls _ _ t129 t140 t141 _ ?side1 ?side2 A99.out).mono ?_); (case side1 => exact zC (Kd.R_reads' HO_134000.out).2.2); (case side2 => exact (Kd.R_reads' HO_134000.out).2.1); rintro e w105 ⟨rfl, hb⟩; have n_ := y9 (Kd.R_below (zR HO_106000.out) hb) (Kd.R_below (zR HO_129000.out) hb) (Kd.R_below (zR HO_134000.out) hb) (Kd.R_below (zR HO_139000.out) hb) (zb BK105.out hb) (zb BK128.out hb) (zb BK133.out hb) (zb BK138.out hb) (below_step (zB) hb); clear HO_106000 HO_129000 HO_134000 HO_139000 BK105 BK128 BK133 BK138 HB; obtain ⟨HO_106000, HO_129000, HO_134000, HO_139000, BK105, BK128, BK133, BK138, HB⟩ := n_; (try clear hb); (try clear hb2); (try clear hk); (try clear hi)))
                             repeat (go_quiet (fail); go_upto_region 25 with (fail))
                             (try simp only [Act.put, List.setIfInBounds_toArray, List.set_cons_zero, List.set_cons_succ])
                             go_cut [172] (fun v172 wc => ∃ (kq : Nat) (x172_99 : Bool), v172 = .bool x172_99 ∧ Aside0 (laws_FnHarmonic.j4 kq l0 t127 x172_99 t124 t129 = some r) ∧ Aside0 (kq ≤ kj65) ∧ Aside0 (Kd.R (Kd.int .i64) 2 wc w.heap.size (fun k_ => some k_ ≠ ((.slice Ao69 t124.length co69) : Value).ownBlock ∧ some k_ ≠ ((.slice Ao74 t129.length co74) : Value).ownBlock ∧ some k_ ≠ ((.slice Ao81 t134.length co81) : Value).ownBlock) (.slice Ao12 t102.length co12) t102) ∧ Aside0 (Kd.R (Kd.int .i64) 2 wc w.heap.size (fun k_ => some k_ ≠ ((.slice Ao12 t102.length co12) : Value).ownBlock ∧ some k_ ≠ ((.slice Ao74 t129.length co74) : Value).ownBlock ∧ some k_ ≠ ((.slice Ao81 t134.length co81) : Value).ownBlock) (.slice Ao69 t124.length co69) t124) ∧ Aside0 (Kd.R (Kd.int .i64) 2 wc w.heap.size (fun k_ => some k_ ≠ ((.slice Ao12 t102.length co12) : Value).ownBlock ∧ some k_ ≠ ((.slice Ao69 t124.length co69) : Value).ownBlock ∧ some k_ ≠ ((.slice Ao81 t134.length co81) : Value).ownBlock) (.slice Ao74 t129.length co74) t129) ∧ Aside0 (Kd.R (Kd.int .i64) 2 wc w.heap.size (fun k_ => some k_ ≠ ((.slice Ao12 t102.length co12) : Value).ownBlock ∧ some k_ ≠ ((.slice Ao69 t124.length co69) : Value).ownBlock ∧ some k_ ≠ ((.slice Ao74 t129.length co74) : Value).ownBlock) (.slice Ao81 t134.length co81) t134) ∧ Aside0 (wc.heap[gb105]? = some (.cells #[(.slice Ao12 t102.length co12)] 26 (0, 0))) ∧ Aside0 (wc.heap[gb128]? = some (.cells #[(.slice Ao69 t124.length co69)] 26 (0, 0))) ∧ Aside0 (wc.heap[gb133]? = some (.cells #[(.slice Ao74 t129.length co74)] 26 (0, 0))) ∧ Aside0 (wc.heap[gb138]? = some (.cells #[(.slice Ao81 t134.length co81)] 26 (0, 0))) ∧ Aside0 (Below w.heap.size w wc))
                             case first =>
                               as_aux_lemma =>
                                have H := HC100.out
                                clear HC100
                                by_cases c106 : t141 = 0
                                · rw [if_pos c106] at H
                                  have c106b0 : (t141 == 0) = true := beq_iff_eq.mpr c106
                                  have c106b1 : (t141 != 0) = false := bne_eq_false_iff_eq.mpr c106
                                  clear c106
                                  (first | rw [c106b0] | (simp only [i64_w, i32_w]; rw [c106b0]) | skip)
                                  by_cases c107 : t140 = true
                                  · subst c107
                                    have H1 : (laws_FnHarmonic.j4 kj65 l0 t127 ((t129.length : Int) != (t124.length : Int)) t124 t129) = some r := by rw [if_pos rfl] at H; exact H
                                    clear H
                                    have H := H1
                                    clear H1
                                    have H' := Aside0.mk H
                                    clear H
                                    have hnb108 := NB133_105.out
                                    have hnc108 := NB105_133.out
                                    have hnb109 := NB133_128.out
                                    have hnc109 := NB128_133.out
                                    have hnb110 := NB133_138.out
                                    have hnc110 := NB138_133.out
                                    have hcz111_0 := zc BK133.out
                                    have hfz111_0 := blk_frozen BK133.out 0
                                    have hnb112 := NB128_105.out
                                    have hnc112 := NB105_128.out
                                    have hnb113 := NB128_138.out
                                    have hnc113 := NB138_128.out
                                    have hcz114_0 := zc BK128.out
                                    have hfz114_0 := blk_frozen BK128.out 0
                                    go_wp2
                                    repeat (go_quiet (fail); try go_wp2)
                                    go_meet
                                    case rel => exact ⟨_, (((t129.length : Int) != (t124.length : Int))), zF, H', ⟨by have := HJ8.out; have := HJ31.out; have := HJ48.out; have := HJ65.out; first | omega | exact Nat.le_refl _⟩, ⟨zR HO_106000.out⟩, ⟨zR HO_129000.out⟩, ⟨zR HO_134000.out⟩, ⟨zR HO_139000.out⟩, ⟨zG BK105.out⟩, ⟨zG BK128.out⟩, ⟨zG BK133.out⟩, ⟨zG BK138.out⟩, ⟨zB⟩⟩
                                  · replace c107 := Bool.eq_false_iff.mpr c107
                                    subst c107
                                    have H1 : (laws_FnHarmonic.j4 kj65 l0 t127 true t124 t129) = some r := by rw [if_neg (show ¬ (false = true) by decide)] at H; exact H
                                    clear H
                                    have H := H1
                                    clear H1
                                    have H' := Aside0.mk H
                                    clear H
                                    go_wp2
                                    repeat (go_quiet (fail); try go_wp2)
                                    go_meet
                                    case rel => exact ⟨_, (true), zF, H', ⟨by have := HJ8.out; have := HJ31.out; have := HJ48.out; have := HJ65.out; first | omega | exact Nat.le_refl _⟩, ⟨zR HO_106000.out⟩, ⟨zR HO_129000.out⟩, ⟨zR HO_134000.out⟩, ⟨zR HO_139000.out⟩, ⟨zG BK105.out⟩, ⟨zG BK128.out⟩, ⟨zG BK133.out⟩, ⟨zG BK138.out⟩, ⟨zB⟩⟩
                                · rw [if_neg c106] at H
                                  have c106b0 : (t141 == 0) = false := beq_eq_false_iff_ne.mpr c106
                                  have c106b1 : (t141 != 0) = true := bne_iff_ne.mpr c106
                                  (first | rw [c106b0] | (simp only [i64_w, i32_w]; rw [c106b0]) | skip)
                                  have H' := Aside0.mk H
                                  clear H
                                  go_wp2
                                  repeat (go_quiet (fail); try go_wp2)
                                  go_meet
                                  case rel => exact ⟨_, (true), zF, H', ⟨by have := HJ8.out; have := HJ31.out; have := HJ48.out; have := HJ65.out; first | omega | exact Nat.le_refl _⟩, ⟨zR HO_106000.out⟩, ⟨zR HO_129000.out⟩, ⟨zR HO_134000.out⟩, ⟨zR HO_139000.out⟩, ⟨zG BK105.out⟩, ⟨zG BK128.out⟩, ⟨zG BK133.out⟩, ⟨zG BK138.out⟩, ⟨zB⟩⟩
                             case rest =>
                               as_aux_lemma =>
                                clear HC100
                                try clear c3
                                try clear c31
                                try clear c96
                                try clear c98
                                try clear c98b0
                                try clear c98b1
                                try clear hcz104_0
                                try clear hcz13_0
                                try clear hcz15_0
                                try clear hcz17_0
                                try clear hcz19_0
                                try clear hcz71_0
                                try clear hcz77_0
                                try clear hcz78_0
                                try clear hcz85_0
                                try clear hfz104_0
                                try clear hfz13_0
                                try clear hfz15_0
                                try clear hfz17_0
                                try clear hfz19_0
                                try clear hfz71_0
                                try clear hfz77_0
                                try clear hfz78_0
                                try clear hfz85_0
                                obtain ⟨kq, x172_99, rfl, HA, HJ99, HO_106000, HO_129000, HO_134000, HO_139000, BK105, BK128, BK133, BK138, HB⟩ := hcut
                                cases kq with
                                | zero => exact absurd HA.out (by simp [laws_FnHarmonic.j4])
                                | succ kj99 =>
                                  have H := HA.out
                                  clear HA
                                  simp only [laws_FnHarmonic.j4] at H
                                  by_cases c115 : x172_99 = true
                                  · subst c115
                                    have H1 : (some false) = some r := by rw [if_pos rfl] at H; exact H
                                    clear H
                                    have H := H1
                                    clear H1
                                    obtain rfl := Option.some.inj H
                                    go_wp2
                                    repeat (go_quiet (fail); try go_wp2)
                                    go_ret
                                    exact ⟨zE, zB⟩
                                  · replace c115 := Bool.eq_false_iff.mpr c115
                                    subst c115
                                    have H1 : (laws_FnHarmonic.l0 kj99 l0 t127 (t124.length : Int) 0 t124 t129) = some r := by rw [if_neg (show ¬ (false = true) by decide)] at H; exact H
                                    clear H
                                    have H := H1
                                    clear H1
                                    have H' := Aside0.mk H
                                    clear H
                                    have hnb116 := NB128_105.out
                                    have hnc116 := NB105_128.out
                                    have hnb117 := NB128_133.out
                                    have hnc117 := NB133_128.out
                                    have hnb118 := NB128_138.out
                                    have hnc118 := NB138_128.out
                                    have hcz119_0 := zc BK128.out
                                    have hfz119_0 := blk_frozen BK128.out 0
                                    go_wp2
                                    repeat (go_quiet (fail); try go_wp2)
                                    go_loopg [176] kj99 (fun kq v176 w' => ∃ (x176_6 : Int), v176 = .int .i64 x176_6 ∧ Aside0 (laws_FnHarmonic.l0 kq l0 t127 (t124.length : Int) x176_6 t124 t129 = some r) ∧ Aside0 (kq ≤ kj99) ∧ Aside0 (Kd.R (Kd.int .i64) 2 w' w.heap.size (fun k_ => some k_ ≠ ((.slice Ao69 t124.length co69) : Value).ownBlock ∧ some k_ ≠ ((.slice Ao74 t129.length co74) : Value).ownBlock ∧ some k_ ≠ ((.slice Ao81 t134.length co81) : Value).ownBlock) (.slice Ao12 t102.length co12) t102) ∧ Aside0 (Kd.R (Kd.int .i64) 2 w' w.heap.size (fun k_ => some k_ ≠ ((.slice Ao12 t102.length co12) : Value).ownBlock ∧ some k_ ≠ ((.slice Ao74 t129.length co74) : Value).ownBlock ∧ some k_ ≠ ((.slice Ao81 t134.length co81) : Value).ownBlock) (.slice Ao69 t124.length co69) t124) ∧ Aside0 (Kd.R (Kd.int .i64) 2 w' w.heap.size (fun k_ => some k_ ≠ ((.slice Ao12 t102.length co12) : Value).ownBlock ∧ some k_ ≠ ((.slice Ao69 t124.length co69) : Value).ownBlock ∧ some k_ ≠ ((.slice Ao81 t134.length co81) : Value).ownBlock) (.slice Ao74 t129.length co74) t129) ∧ Aside0 (Kd.R (Kd.int .i64) 2 w' w.heap.size (fun k_ => some k_ ≠ ((.slice Ao12 t102.length co12) : Value).ownBlock ∧ some k_ ≠ ((.slice Ao69 t124.length co69) : Value).ownBlock ∧ some k_ ≠ ((.slice Ao74 t129.length co74) : Value).ownBlock) (.slice Ao81 t134.length co81) t134) ∧ Aside0 (w'.heap[gb105]? = some (.cells #[(.slice Ao12 t102.length co12)] 26 (0, 0))) ∧ Aside0 (w'.heap[gb128]? = some (.cells #[(.slice Ao69 t124.length co69)] 26 (0, 0))) ∧ Aside0 (w'.heap[gb133]? = some (.cells #[(.slice Ao74 t129.length co74)] 26 (0, 0))) ∧ Aside0 (w'.heap[gb138]? = some (.cells #[(.slice Ao81 t134.length co81)] 26 (0, 0))) ∧ Aside0 (Below w.heap.size w w'))
                                    case atStart => exact ⟨(0), zF, H', ⟨Nat.le_refl _⟩, ⟨zR HO_106000.out⟩, ⟨zR HO_129000.out⟩, ⟨zR HO_134000.out⟩, ⟨zR HO_139000.out⟩, ⟨zG BK105.out⟩, ⟨zG BK128.out⟩, ⟨zG BK133.out⟩, ⟨zG BK138.out⟩, ⟨zB⟩⟩
                                    case round =>
                                      as_aux_lemma =>
                                       clear H'
                                       try clear c3
                                       try clear c31
                                       try clear c96
                                       try clear c98
                                       try clear c98b0
                                       try clear c98b1
                                       try clear c115
                                       try clear hcz104_0
                                       try clear hcz119_0
                                       try clear hcz13_0
                                       try clear hcz15_0
                                       try clear hcz17_0
                                       try clear hcz19_0
                                       try clear hcz71_0
                                       try clear hcz77_0
                                       try clear hcz78_0
                                       try clear hcz85_0
                                       try clear hfz104_0
                                       try clear hfz119_0
                                       try clear hfz13_0
                                       try clear hfz15_0
                                       try clear hfz17_0
                                       try clear hfz19_0
                                       try clear hfz71_0
                                       try clear hfz77_0
                                       try clear hfz78_0
                                       try clear hfz85_0
                                       obtain ⟨x176_6, rfl, HA, HK6, HO_106000, HO_129000, HO_134000, HO_139000, BK105, BK128, BK133, BK138, HB⟩ := hrel
                                       cases gk with
                                       | zero => exact absurd HA.out (by simp [laws_FnHarmonic.l0])
                                       | succ k6 =>
                                         have H := HA.out
                                         clear HA
                                         simp only [laws_FnHarmonic.l0] at H
                                         by_cases c120 : x176_6 < (t124.length : Int)
                                         · rw [if_pos c120] at H
                                           have c120b0 : decide (x176_6 < (t124.length : Int)) = true := decide_eq_true c120
                                           clear c120
                                           by_cases c121 : 0 ≤ x176_6
                                           · rw [if_pos c121] at H
                                             have c121b0 : decide (0 ≤ x176_6) = true := decide_eq_true c121
                                             clear c121
                                             by_cases c122 : x176_6 < (t129.length : Int)
                                             · rw [if_pos c122] at H
                                               have c122b0 : decide (x176_6 < (t129.length : Int)) = true := decide_eq_true c122
                                               clear c122
                                               by_cases c123 : x176_6 < (t124.length : Int)
                                               · rw [if_pos c123] at H
                                                 have c123b0 : decide (x176_6 < (t124.length : Int)) = true := decide_eq_true c123
                                                 clear c123
                                                 by_cases c124 : (rd t129 x176_6) > (rd t124 x176_6)
                                                 · rw [if_pos c124] at H
                                                   have c124b0 : decide ((rd t124 x176_6) < (rd t129 x176_6)) = true := decide_eq_true c124
                                                   clear c124
                                                   obtain rfl := Option.some.inj H
                                                   have hnb125 := NB133_105.out
                                                   have hnc125 := NB105_133.out
                                                   have hnb126 := NB133_128.out
                                                   have hnc126 := NB128_133.out
                                                   have hnb127 := NB133_138.out
                                                   have hnc127 := NB138_133.out
                                                   have hcz128_0 := zc BK133.out
                                                   have hfz128_0 := blk_frozen BK133.out 0
                                                   have p142 : 0 ≤ (x176_6 : Int) := zD
                                                   have q142 : x176_6 < (t129.length : Int) := zD
                                                   obtain ⟨ad142, e142, hx142_0⟩ := Kd.at_int (Kd.R_reads' HO_134000.out).2.2 x176_6 p142 q142
                                                   cases e142
                                                   replace p142 := eq_true p142
                                                   replace q142 := eq_true q142
                                                   have hnb129 := NB128_105.out
                                                   have hnc129 := NB105_128.out
                                                   have hnb130 := NB128_138.out
                                                   have hnc130 := NB138_128.out
                                                   have hcz131_0 := zc BK128.out
                                                   have hfz131_0 := blk_frozen BK128.out 0
                                                   have p143 : 0 ≤ (x176_6 : Int) := zD
                                                   have q143 : x176_6 < (t124.length : Int) := zD
                                                   obtain ⟨ad143, e143, hx143_0⟩ := Kd.at_int (Kd.R_reads' HO_129000.out).2.2 x176_6 p143 q143
                                                   cases e143
                                                   replace p143 := eq_true p143
                                                   replace q143 := eq_true q143
                                                   go_wp2
                                                   repeat (go_quiet (fail); try go_wp2)
                                                   go_ret
                                                   exact ⟨zE, zB⟩
                                                 · rw [if_neg c124] at H
                                                   have c124b0 : decide ((rd t124 x176_6) < (rd t129 x176_6)) = false := decide_eq_false c124
                                                   clear c124
                                                   by_cases c132 : (wrap64 (2 * (rd t129 x176_6))) ≤ (rd t124 x176_6)
                                                   · rw [if_pos c132] at H
                                                     have c132b0 : decide ((wrap64 (2 * (rd t129 x176_6))) ≤ (rd t124 x176_6)) = true := decide_eq_true c132
                                                     clear c132
                                                     obtain rfl := Option.some.inj H
                                                     have hnb133 := NB133_105.out
                                                     have hnc133 := NB105_133.out
                                                     have hnb134 := NB133_128.out
                                                     have hnc134 := NB128_133.out
                                                     have hnb135 := NB133_138.out
                                                     have hnc135 := NB138_133.out
                                                     have hcz136_0 := zc BK133.out
                                                     have hfz136_0 := blk_frozen BK133.out 0
                                                     have p142 : 0 ≤ (x176_6 : Int) := zD
                                                     have q142 : x176_6 < (t129.length : Int) := zD
                                                     obtain ⟨ad142, e142, hx142_0⟩ := Kd.at_int (Kd.R_reads' HO_134000.out).2.2 x176_6 p142 q142
                                                     cases e142
                                                     replace p142 := eq_true p142
                                                     replace q142 := eq_true q142
                                                     have hnb137 := NB128_105.out
                                                     have hnc137 := NB105_128.out
                                                     have hnb138 := NB128_138.out
                                                     have hnc138 := NB138_128.out
                                                     have hcz139_0 := zc BK128.out
                                                     have hfz139_0 := blk_frozen BK128.out 0
                                                     have p143 : 0 ≤ (x176_6 : Int) := zD
                                                     have q143 : x176_6 < (t124.length : Int) := zD
                                                     obtain ⟨ad143, e143, hx143_0⟩ := Kd.at_int (Kd.R_reads' HO_129000.out).2.2 x176_6 p143 q143
                                                     cases e143
                                                     replace p143 := eq_true p143
                                                     replace q143 := eq_true q143
                                                     have p144 : 0 ≤ (x176_6 : Int) := zD
                                                     have q144 : x176_6 < (t129.length : Int) := zD
                                                     obtain ⟨ad144, e144, hx144_0⟩ := Kd.at_int (Kd.R_reads' HO_134000.out).2.2 x176_6 p144 q144
                                                     obtain rfl : ad142 = ad144 := (by injection e144)
                                                     replace p144 := eq_true p144
                                                     replace q144 := eq_true q144
                                                     have p145 : 0 ≤ (x176_6 : Int) := zD
                                                     have q145 : x176_6 < (t124.length : Int) := zD
                                                     obtain ⟨ad145, e145, hx145_0⟩ := Kd.at_int (Kd.R_reads' HO_129000.out).2.2 x176_6 p145 q145
                                                     obtain rfl : ad143 = ad145 := (by injection e145)
                                                     replace p145 := eq_true p145
                                                     replace q145 := eq_true q145
                                                     go_wp2
                                                     repeat (go_quiet (fail); try go_wp2)
                                                     go_ret
                                                     exact ⟨zE, zB⟩
                                                   · rw [if_neg c132] at H
                                                     have c132b0 : decide ((wrap64 (2 * (rd t129 x176_6))) ≤ (rd t124 x176_6)) = false := decide_eq_false c132
                                                     clear c132
                                                     by_cases c140 : t127 = 0
                                                     · rw [if_pos c140] at H
                                                       exact absurd H (by simp)
                                                     · rw [if_neg c140] at H
                                                       have c140b0 : (t127 == 0) = false := beq_eq_false_iff_ne.mpr c140
                                                       have c140b1 : (t127 != 0) = true := bne_iff_ne.mpr c140
                                                       by_cases c141 : (Int.tmod (rd t129 x176_6) t127) = 0
                                                       · rw [if_pos c141] at H
                                                         have c141b0 : ((Int.tmod (rd t129 x176_6) t127) == 0) = true := beq_iff_eq.mpr c141
                                                         have c141b1 : ((Int.tmod (rd t129 x176_6) t127) != 0) = false := bne_eq_false_iff_eq.mpr c141
                                                         clear c141
                                                         have H' := Aside0.mk H
                                                         clear H
                                                         have hnb142 := NB133_105.out
                                                         have hnc142 := NB105_133.out
                                                         have hnb143 := NB133_128.out
                                                         have hnc143 := NB128_133.out
                                                         have hnb144 := NB133_138.out
                                                         have hnc144 := NB138_133.out
                                                         have hcz145_0 := zc BK133.out
                                                         have hfz145_0 := blk_frozen BK133.out 0
                                                         have p142 : 0 ≤ (x176_6 : Int) := zD
                                                         have q142 : x176_6 < (t129.length : Int) := zD
                                                         obtain ⟨ad142, e142, hx142_0⟩ := Kd.at_int (Kd.R_reads' HO_134000.out).2.2 x176_6 p142 q142
                                                         cases e142
                                                         replace p142 := eq_true p142
                                                         replace q142 := eq_true q142
                                                         have hnb146 := NB128_105.out
                                                         have hnc146 := NB105_128.out
                                                         have hnb147 := NB128_138.out
                                                         have hnc147 := NB138_128.out
                                                         have hcz148_0 := zc BK128.out
                                                         have hfz148_0 := blk_frozen BK128.out 0
                                                         have p143 : 0 ≤ (x176_6 : Int) := zD
                                                         have q143 : x176_6 < (t124.length : Int) := zD
                                                         obtain ⟨ad143, e143, hx143_0⟩ := Kd.at_int (Kd.R_reads' HO_129000.out).2.2 x176_6 p143 q143
                                                         cases e143
                                                         replace p143 := eq_true p143
                                                         replace q143 := eq_true q143
                                                         have p144 : 0 ≤ (x176_6 : Int) := zD
                                                         have q144 : x176_6 < (t129.length : Int) := zD
                                                         obtain ⟨ad144, e144, hx144_0⟩ := Kd.at_int (Kd.R_reads' HO_134000.out).2.2 x176_6 p144 q144
                                                         obtain rfl : ad142 = ad144 := (by injection e144)
                                                         replace p144 := eq_true p144
                                                         replace q144 := eq_true q144
                                                         have p145 : 0 ≤ (x176_6 : Int) := zD
                                                         have q145 : x176_6 < (t124.length : Int) := zD
                                                         obtain ⟨ad145, e145, hx145_0⟩ := Kd.at_int (Kd.R_reads' HO_129000.out).2.2 x176_6 p145 q145
                                                         obtain rfl : ad143 = ad145 := (by injection e145)
                                                         replace p145 := eq_true p145
                                                         replace q145 := eq_true q145
                                                         have p146 : 0 ≤ (x176_6 : Int) := zD
                                                         have q146 : x176_6 < (t129.length : Int) := zD
                                                         obtain ⟨ad146, e146, hx146_0⟩ := Kd.at_int (Kd.R_reads' HO_134000.out).2.2 x176_6 p146 q146
                                                         obtain rfl : ad142 = ad146 := (by injection e146)
                                                         replace p146 := eq_true p146
                                                         replace q146 := eq_true q146
                                                         go_wp2
                                                         repeat (go_quiet (fail); try go_wp2)
                                                         go_roundg k6
                                                         case measure => have := HJ8.out; have := HJ31.out; have := HJ48.out; have := HJ65.out; have := HJ99.out; have := HK6.out; omega
                                                         case rel => exact ⟨(wrap64 (x176_6 + 1)), zF, H', ⟨by have := HJ8.out; have := HJ31.out; have := HJ48.out; have := HJ65.out; have := HJ99.out; have := HK6.out; omega⟩, ⟨zR HO_106000.out⟩, ⟨zR HO_129000.out⟩, ⟨zR HO_134000.out⟩, ⟨zR HO_139000.out⟩, ⟨zG BK105.out⟩, ⟨zG BK128.out⟩, ⟨zG BK133.out⟩, ⟨zG BK138.out⟩, ⟨zB⟩⟩
                                                       · rw [if_neg c141] at H
                                                         have c141b0 : ((Int.tmod (rd t129 x176_6) t127) == 0) = false := beq_eq_false_iff_ne.mpr c141
                                                         have c141b1 : ((Int.tmod (rd t129 x176_6) t127) != 0) = true := bne_iff_ne.mpr c141
                                                         obtain rfl := Option.some.inj H
                                                         have hnb149 := NB133_105.out
                                                         have hnc149 := NB105_133.out
                                                         have hnb150 := NB133_128.out
                                                         have hnc150 := NB128_133.out
                                                         have hnb151 := NB133_138.out
                                                         have hnc151 := NB138_133.out
                                                         have hcz152_0 := zc BK133.out
                                                         have hfz152_0 := blk_frozen BK133.out 0
                                                         have p142 : 0 ≤ (x176_6 : Int) := zD
                                                         have q142 : x176_6 < (t129.length : Int) := zD
                                                         obtain ⟨ad142, e142, hx142_0⟩ := Kd.at_int (Kd.R_reads' HO_134000.out).2.2 x176_6 p142 q142
                                                         cases e142
                                                         replace p142 := eq_true p142
                                                         replace q142 := eq_true q142
                                                         have hnb153 := NB128_105.out
                                                         have hnc153 := NB105_128.out
                                                         have hnb154 := NB128_138.out
                                                         have hnc154 := NB138_128.out
                                                         have hcz155_0 := zc BK128.out
                                                         have hfz155_0 := blk_frozen BK128.out 0
                                                         have p143 : 0 ≤ (x176_6 : Int) := zD
                                                         have q143 : x176_6 < (t124.length : Int) := zD
                                                         obtain ⟨ad143, e143, hx143_0⟩ := Kd.at_int (Kd.R_reads' HO_129000.out).2.2 x176_6 p143 q143
                                                         cases e143
                                                         replace p143 := eq_true p143
                                                         replace q143 := eq_true q143
                                                         have p144 : 0 ≤ (x176_6 : Int) := zD
                                                         have q144 : x176_6 < (t129.length : Int) := zD
                                                         obtain ⟨ad144, e144, hx144_0⟩ := Kd.at_int (Kd.R_reads' HO_134000.out).2.2 x176_6 p144 q144
                                                         obtain rfl : ad142 = ad144 := (by injection e144)
                                                         replace p144 := eq_true p144
                                                         replace q144 := eq_true q144
                                                         have p145 : 0 ≤ (x176_6 : Int) := zD
                                                         have q145 : x176_6 < (t124.length : Int) := zD
                                                         obtain ⟨ad145, e145, hx145_0⟩ := Kd.at_int (Kd.R_reads' HO_129000.out).2.2 x176_6 p145 q145
                                                         obtain rfl : ad143 = ad145 := (by injection e145)
                                                         replace p145 := eq_true p145
                                                         replace q145 := eq_true q145
                                                         have p146 : 0 ≤ (x176_6 : Int) := zD
                                                         have q146 : x176_6 < (t129.length : Int) := zD
                                                         obtain ⟨ad146, e146, hx146_0⟩ := Kd.at_int (Kd.R_reads' HO_134000.out).2.2 x176_6 p146 q146
                                                         obtain rfl : ad142 = ad146 := (by injection e146)
                                                         replace p146 := eq_true p146
                                                         replace q146 := eq_true q146
                                                         go_wp2
                                                         repeat (go_quiet (fail); try go_wp2)
                                                         go_ret
                                                         exact ⟨zE, zB⟩
                                               · rw [if_neg c123] at H
                                                 exact absurd H (by simp)
                                             · rw [if_neg c122] at H
                                               exact absurd H (by simp)
                                           · rw [if_neg c121] at H
                                             exact absurd H (by simp)
                                         · rw [if_neg c120] at H
                                           have c120b0 : decide (x176_6 < (t124.length : Int)) = false := decide_eq_false c120
                                           clear c120
                                           have H' := Aside0.mk H
                                           clear H
                                           go_wp2
                                           repeat (go_quiet (fail); try go_wp2)
                                           go_meet
                                           case rel => exact ⟨_, H', ⟨by have := HJ8.out; have := HJ31.out; have := HJ48.out; have := HJ65.out; have := HJ99.out; have := HK6.out; first | omega | exact Nat.le_refl _⟩, ⟨zR HO_106000.out⟩, ⟨zR HO_129000.out⟩, ⟨zR HO_134000.out⟩, ⟨zR HO_139000.out⟩, ⟨zG BK105.out⟩, ⟨zG BK128.out⟩, ⟨zG BK133.out⟩, ⟨zG BK138.out⟩, ⟨zB⟩⟩
                           · rw [if_neg c98] at H
                             have c98b0 : (t132 == 0) = false := beq_eq_false_iff_ne.mpr c98
                             have c98b1 : (t132 != 0) = true := bne_iff_ne.mpr c98
                             (first | rw [c98b0] | (simp only [i64_w, i32_w]; rw [c98b0]) | skip)
                             have H' := Aside0.mk H
                             clear H
                             go_wp2
                             repeat (go_quiet (fail); try go_wp2)
                             go_meet
                             case rel => exact ⟨_, H', ⟨by have := HJ8.out; have := HJ31.out; have := HJ48.out; have := HJ65.out; first | omega | exact Nat.le_refl _⟩, ⟨zR HO_106000.out⟩, ⟨zR HO_129000.out⟩, ⟨zR HO_134000.out⟩, ⟨zR HO_139000.out⟩, ⟨zG BK105.out⟩, ⟨zG BK128.out⟩, ⟨zG BK133.out⟩, ⟨zG BK138.out⟩, ⟨zB⟩⟩
                        case rest =>
                          as_aux_lemma =>
                           clear HC97
                           try clear c3
                           try clear c31
                           try clear c96
                           try clear hcz13_0
                           try clear hcz15_0
                           try clear hcz17_0
                           try clear hcz19_0
                           try clear hcz71_0
                           try clear hcz77_0
                           try clear hcz78_0
                           try clear hcz85_0
                           try clear hfz13_0
                           try clear hfz15_0
                           try clear hfz17_0
                           try clear hfz19_0
                           try clear hfz71_0
                           try clear hfz77_0
                           try clear hfz78_0
                           try clear hfz85_0
                           obtain ⟨kq, HA, HJ96, HO_106000, HO_129000, HO_134000, HO_139000, BK105, BK128, BK133, BK138, HB⟩ := hcut
                           cases kq with
                           | zero => exact absurd HA.out (by simp [laws_FnHarmonic.j6])
                           | succ kj96 =>
                             have H := HA.out
                             clear HA
                             simp only [laws_FnHarmonic.j6] at H
                             replace H := Option.bind_eq_some_iff.mp H
                             obtain ⟨t147, A1560, H⟩ := H
                             replace H : ((impl_TurnsByPowers.f kj96 t147).bind fun bt151 => ((spec_TurnsByPowers.f kj96 t147).bind fun bt155 => ((impl_TurnsByOne.f kj96 t147).bind fun bt159 => ((spec_TurnsByOne.f kj96 t147).bind fun bt164 => (if bt151.2 = bt155.2 then ((laws_likeInts.f kj96 bt151.1 bt155.1).bind fun t169 => (if t169 = true then (if bt159.2.2 = bt164.2.2 then ((laws_likeInts.f kj96 bt159.1 bt164.1).bind fun t170 => (if t170 = true then (if bt159.2.1 = bt164.2.1 then (if bt151.2 = 0 then (laws_FnHarmonic.j7 kj96 bt151.1 bt151.2 bt159.1 bt159.2.2 (bt159.2.2 != 0) t147) else (laws_FnHarmonic.j7 kj96 bt151.1 bt151.2 bt159.1 bt159.2.2 false t147)) else (laws_FnHarmonic.j7 kj96 bt151.1 bt151.2 bt159.1 bt159.2.2 true t147)) else (laws_FnHarmonic.j7 kj96 bt151.1 bt151.2 bt159.1 bt159.2.2 true t147))) else (laws_FnHarmonic.j7 kj96 bt151.1 bt151.2 bt159.1 bt159.2.2 true t147)) else (laws_FnHarmonic.j7 kj96 bt151.1 bt151.2 bt159.1 bt159.2.2 true t147))) else (laws_FnHarmonic.j7 kj96 bt151.1 bt151.2 bt159.1 bt159.2.2 true t147)))))) = some r := H
                             have A156 := Aside0.mk A1560
                             clear A1560
                             replace H := Option.bind_eq_some_iff.mp H
                             obtain ⟨⟨t151, t154⟩, A1570, H⟩ := H
                             replace H : ((spec_TurnsByPowers.f kj96 t147).bind fun bt155 => ((impl_TurnsByOne.f kj96 t147).bind fun bt159 => ((spec_TurnsByOne.f kj96 t147).bind fun bt164 => (if t154 = bt155.2 then ((laws_likeInts.f kj96 t151 bt155.1).bind fun t169 => (if t169 = true then (if bt159.2.2 = bt164.2.2 then ((laws_likeInts.f kj96 bt159.1 bt164.1).bind fun t170 => (if t170 = true then (if bt159.2.1 = bt164.2.1 then (if t154 = 0 then (laws_FnHarmonic.j7 kj96 t151 t154 bt159.1 bt159.2.2 (bt159.2.2 != 0) t147) else (laws_FnHarmonic.j7 kj96 t151 t154 bt159.1 bt159.2.2 false t147)) else (laws_FnHarmonic.j7 kj96 t151 t154 bt159.1 bt159.2.2 true t147)) else (laws_FnHarmonic.j7 kj96 t151 t154 bt159.1 bt159.2.2 true t147))) else (laws_FnHarmonic.j7 kj96 t151 t154 bt159.1 bt159.2.2 true t147)) else (laws_FnHarmonic.j7 kj96 t151 t154 bt159.1 bt159.2.2 true t147))) else (laws_FnHarmonic.j7 kj96 t151 t154 bt159.1 bt159.2.2 true t147))))) = some r := H
                             have A157 := Aside0.mk A1570
                             clear A1570
                             replace H := Option.bind_eq_some_iff.mp H
                             obtain ⟨⟨t155, t158⟩, A1580, H⟩ := H
                             replace H : ((impl_TurnsByOne.f kj96 t147).bind fun bt159 => ((spec_TurnsByOne.f kj96 t147).bind fun bt164 => (if t154 = t158 then ((laws_likeInts.f kj96 t151 t155).bind fun t169 => (if t169 = true then (if bt159.2.2 = bt164.2.2 then ((laws_likeInts.f kj96 bt159.1 bt164.1).bind fun t170 => (if t170 = true then (if bt159.2.1 = bt164.2.1 then (if t154 = 0 then (laws_FnHarmonic.j7 kj96 t151 t154 bt159.1 bt159.2.2 (bt159.2.2 != 0) t147) else (laws_FnHarmonic.j7 kj96 t151 t154 bt159.1 bt159.2.2 false t147)) else (laws_FnHarmonic.j7 kj96 t151 t154 bt159.1 bt159.2.2 true t147)) else (laws_FnHarmonic.j7 kj96 t151 t154 bt159.1 bt159.2.2 true t147))) else (laws_FnHarmonic.j7 kj96 t151 t154 bt159.1 bt159.2.2 true t147)) else (laws_FnHarmonic.j7 kj96 t151 t154 bt159.1 bt159.2.2 true t147))) else (laws_FnHarmonic.j7 kj96 t151 t154 bt159.1 bt159.2.2 true t147)))) = some r := H
                             have A158 := Aside0.mk A1580
                             clear A1580
                             replace H := Option.bind_eq_some_iff.mp H
                             obtain ⟨⟨t159, t162, t163⟩, A1590, H⟩ := H
                             replace H : ((spec_TurnsByOne.f kj96 t147).bind fun bt164 => (if t154 = t158 then ((laws_likeInts.f kj96 t151 t155).bind fun t169 => (if t169 = true then (if t163 = bt164.2.2 then ((laws_likeInts.f kj96 t159 bt164.1).bind fun t170 => (if t170 = true then (if t162 = bt164.2.1 then (if t154 = 0 then (laws_FnHarmonic.j7 kj96 t151 t154 t159 t163 (t163 != 0) t147) else (laws_FnHarmonic.j7 kj96 t151 t154 t159 t163 false t147)) else (laws_FnHarmonic.j7 kj96 t151 t154 t159 t163 true t147)) else (laws_FnHarmonic.j7 kj96 t151 t154 t159 t163 true t147))) else (laws_FnHarmonic.j7 kj96 t151 t154 t159 t163 true t147)) else (laws_FnHarmonic.j7 kj96 t151 t154 t159 t163 true t147))) else (laws_FnHarmonic.j7 kj96 t151 t154 t159 t163 true t147))) = some r := H
                             have A159 := Aside0.mk A1590
                             clear A1590
                             replace H := Option.bind_eq_some_iff.mp H
                             obtain ⟨⟨t164, t167, t168⟩, A1600, H⟩ := H
                             replace H : (if t154 = t158 then ((laws_likeInts.f kj96 t151 t155).bind fun t169 => (if t169 = true then (if t163 = t168 then ((laws_likeInts.f kj96 t159 t164).bind fun t170 => (if t170 = true then (if t162 = t167 then (if t154 = 0 then (laws_FnHarmonic.j7 kj96 t151 t154 t159 t163 (t163 != 0) t147) else (laws_FnHarmonic.j7 kj96 t151 t154 t159 t163 false t147)) else (laws_FnHarmonic.j7 kj96 t151 t154 t159 t163 true t147)) else (laws_FnHarmonic.j7 kj96 t151 t154 t159 t163 true t147))) else (laws_FnHarmonic.j7 kj96 t151 t154 t159 t163 true t147)) else (laws_FnHarmonic.j7 kj96 t151 t154 t159 t163 true t147))) else (laws_FnHarmonic.j7 kj96 t151 t154 t159 t163 true t147)) = some r := H
                             have A160 := Aside0.mk A1600
                             clear A1600
                             have HC161 := Aside0.mk H
                             clear H
                             go_upto_region 38 with (first | (go_at_call 17; (with_reducible refine (spec_DrawTurnsByPowers.calls kj96 _ _ l0 t147 _ ?side1 ?side2 A156.out).mono ?_); (case side1 => exact zC (Kd.C_below HR0.out HB.out)); (case side2 => exact HC0.out); rintro e w162 ⟨v148, rfl, ho0, hb⟩; have n_ := y10 (Kd.R_elder' (zR HO_106000.out) (Kd.R_base ho0) hb) (Kd.R_elder' (zR HO_129000.out) (Kd.R_base ho0) hb) (Kd.R_elder' (zR HO_134000.out) (Kd.R_base ho0) hb) (Kd.R_elder' (zR HO_139000.out) (Kd.R_base ho0) hb) (Kd.R_lower (Kd.R_new' (Kd.R_new' (Kd.R_new' (Kd.R_new' ho0 (Kd.R_lt (zR HO_106000.out))) (Kd.R_lt (zR HO_129000.out))) (Kd.R_lt (zR HO_134000.out))) (Kd.R_lt (zR HO_139000.out))) (below_size (zB))) (zb BK105.out hb) (zb BK128.out hb) (zb BK133.out hb) (zb BK138.out hb) (below_step (zB) hb); clear HO_106000 HO_129000 HO_134000 HO_139000 BK105 BK128 BK133 BK138 HB; obtain ⟨HO_106000, HO_129000, HO_134000, HO_139000, HO149, BK105, BK128, BK133, BK138, HB⟩ := n_; (try clear hb); (try clear hb2); (try clear hk); (try clear hi); (try clear ho0)) | ((with_reducible refine gate_dst (N := 26) rfl ?_); (try (refine gate_guard (by rfl) ?_; dsimp only)); refine box_event zr (N := 26) zr (cs := #[.slice none 0 0]) (t := 26) zg ?_; intro gb150 hg w163 hbox hb; have n0_ := Aside0.mk (Kd.R_below (zR HO_106000.out) hb); have n1_ := Aside0.mk (Kd.R_below (zR HO_129000.out) hb); have n2_ := Aside0.mk (Kd.R_below (zR HO_134000.out) hb); have n3_ := Aside0.mk (Kd.R_below (zR HO_139000.out) hb); have n4_ := Aside0.mk (Kd.R_below (zR HO149.out) hb); have n5_ := Aside0.mk (zb BK105.out hb); have n6_ := Aside0.mk (zb BK128.out hb); have n7_ := Aside0.mk (zb BK133.out hb); have n8_ := Aside0.mk (zb BK138.out hb); have n9_ := Aside0.mk (below_step (zB) hb); have n10_ := Aside0.mk (hbox); have n11_ := Aside0.mk ((zS hg : w.heap.size ≤ gb150)); have n12_ := Aside0.mk ((zS hg : w.heap.size ≤ gb150)); have n13_ := Aside0.mk ((zL hg BK105.out : gb105 ≠ gb150)); have n14_ := Aside0.mk ((zM hg BK105.out : gb150 ≠ gb105)); have n15_ := Aside0.mk ((zL hg BK128.out : gb128 ≠ gb150)); have n16_ := Aside0.mk ((zM hg BK128.out : gb150 ≠ gb128)); have n17_ := Aside0.mk ((zL hg BK133.out : gb133 ≠ gb150)); have n18_ := Aside0.mk ((zM hg BK133.out : gb150 ≠ gb133)); have n19_ := Aside0.mk ((zL hg BK138.out : gb138 ≠ gb150)); have n20_ := Aside0.mk ((zM hg BK138.out : gb150 ≠ gb138)); clear HO_106000; clear HO_129000; clear HO_134000; clear HO_139000; clear HO149; clear BK105; clear BK128; clear BK133; clear BK138; clear HB; have HO_106000 := n0_; have HO_129000 := n1_; have HO_134000 := n2_; have HO_139000 := n3_; have HO149 := n4_; have BK105 := n5_; have BK128 := n6_; have BK133 := n7_; have BK138 := n8_; have HB := n9_; have BK150 := n10_; have GW150 := n11_; have GE150 := n12_; have NB105_150 := n13_; have NB150_105 := n14_; have NB128_150 := n15_; have NB150_128 := n16_; have NB133_150 := n17_; have NB150_133 := n18_; have NB138_150 := n19_; have NB150_138 := n20_; clear n0_ n1_ n2_ n3_ n4_ n5_ n6_ n7_ n8_ n9_ n10_ n11_ n12_ n13_ n14_ n15_ n16_ n17_ n18_ n19_ n20_; clear hb hbox hg; obtain ⟨Ao164, co164, eo164⟩ := Kd.R_slice HO149.out; subst eo164; have hnb165 := NB150_105.out; have hnc165 := NB105_150.out; have hnb166 := NB150_128.out; have hnc166 := NB128_150.out; have hnb167 := NB150_133.out; have hnc167 := NB133_150.out; have hnb168 := NB150_138.out; have hnc168 := NB138_150.out; have hcz169_0 := zc BK150.out; have hfz169_0 := blk_frozen BK150.out 0) | (go_at_call 18; (with_reducible refine (impl_TurnsByPowers.calls kj96 _ _ t147 t151 t154 _ ?side1 ?side2 A157.out).mono ?_); (case side1 => refine (Kd.R_reads' (e := 2) (base := w.heap.size) (ok := fun k_ => ((((True ∧ some k_ ≠ (.slice Ao12 t102.length co12 : Value).ownBlock) ∧ some k_ ≠ (.slice Ao69 t124.length co69 : Value).ownBlock) ∧ some k_ ≠ (.slice Ao74 t129.length co74 : Value).ownBlock) ∧ some k_ ≠ (.slice Ao81 t134.length co81 : Value).ownBlock)) (n := t147.length) (c := co164) ?_).2.2; exact (by refine zR ?_; exact (Kd.R_mono (Kd.R_far (p := ⟨gb150, 0, none⟩) (Kd.R_types HO149.out BK150.out (by decide)) (fun _ hk => hk.2) (.slice Ao164 t147.length co164)) (fun _ h_ => h_.1)))); (case side2 => exact (Kd.R_reads' HO149.out).2.1); rintro e w170 ⟨v152, rfl, ho0, hb⟩; have n_ := y12 (Kd.R_elder' (by refine zR ?_; exact (Kd.R_mono (Kd.R_far (p := ⟨gb150, 0, none⟩) (Kd.R_types HO_106000.out BK150.out (by decide)) (fun _ hk => hk.2) (.slice Ao164 t147.length co164)) (fun _ h_ => h_.1))) (Kd.R_base ho0) hb) (Kd.R_elder' (by refine zR ?_; exact (Kd.R_mono (Kd.R_far (p := ⟨gb150, 0, none⟩) (Kd.R_types HO_129000.out BK150.out (by decide)) (fun _ hk => hk.2) (.slice Ao164 t147.length co164)) (fun _ h_ => h_.1))) (Kd.R_base ho0) hb) (Kd.R_elder' (by refine zR ?_; exact (Kd.R_mono (Kd.R_far (p := ⟨gb150, 0, none⟩) (Kd.R_types HO_134000.out BK150.out (by decide)) (fun _ hk => hk.2) (.slice Ao164 t147.length co164)) (fun _ h_ => h_.1))) (Kd.R_base ho0) hb) (Kd.R_elder' (by refine zR ?_; exact (Kd.R_mono (Kd.R_far (p := ⟨gb150, 0, none⟩) (Kd.R_types HO_139000.out BK150.out (by decide)) (fun _ hk => hk.2) (.slice Ao164 t147.length co164)) (fun _ h_ => h_.1))) (Kd.R_base ho0) hb) (Kd.R_elder' (by refine zR ?_; exact (Kd.R_mono (Kd.R_far (p := ⟨gb150, 0, none⟩) (Kd.R_types HO149.out BK150.out (by decide)) (fun _ hk => hk.2) (.slice Ao164 t147.length co164)) (fun _ h_ => h_.1))) (Kd.R_base ho0) hb) (Kd.R_lower (Kd.R_new' (Kd.R_new' (Kd.R_new' (Kd.R_new' (Kd.R_new' ho0 (Kd.R_lt (by refine zR ?_; exact (Kd.R_mono (Kd.R_far (p := ⟨gb150, 0, none⟩) (Kd.R_types HO_106000.out BK150.out (by decide)) (fun _ hk => hk.2) (.slice Ao164 t147.length co164)) (fun _ h_ => h_.1))))) (Kd.R_lt (by refine zR ?_; exact (Kd.R_mono (Kd.R_far (p := ⟨gb150, 0, none⟩) (Kd.R_types HO_129000.out BK150.out (by decide)) (fun _ hk => hk.2) (.slice Ao164 t147.length co164)) (fun _ h_ => h_.1))))) (Kd.R_lt (by refine zR ?_; exact (Kd.R_mono (Kd.R_far (p := ⟨gb150, 0, none⟩) (Kd.R_types HO_134000.out BK150.out (by decide)) (fun _ hk => hk.2) (.slice Ao164 t147.length co164)) (fun _ h_ => h_.1))))) (Kd.R_lt (by refine zR ?_; exact (Kd.R_mono (Kd.R_far (p := ⟨gb150, 0, none⟩) (Kd.R_types HO_139000.out BK150.out (by decide)) (fun _ hk => hk.2) (.slice Ao164 t147.length co164)) (fun _ h_ => h_.1))))) (Kd.R_lt (by refine zR ?_; exact (Kd.R_mono (Kd.R_far (p := ⟨gb150, 0, none⟩) (Kd.R_types HO149.out BK150.out (by decide)) (fun _ hk => hk.2) (.slice Ao164 t147.length co164)) (fun _ h_ => h_.1))))) (below_size (zB))) (blk_below (g := gb105) (o := .cells #[.slice Ao12 t102.length co12] 26 (0, 0)) (by refine zG ?_; refine blk_far ?_ NB105_150.out _; refine zG ?_; exact BK105.out) hb) (blk_below (g := gb128) (o := .cells #[.slice Ao69 t124.length co69] 26 (0, 0)) (by refine zG ?_; refine blk_far ?_ NB128_150.out _; refine zG ?_; exact BK128.out) hb) (blk_below (g := gb133) (o := .cells #[.slice Ao74 t129.length co74] 26 (0, 0)) (by refine zG ?_; refine blk_far ?_ NB133_150.out _; refine zG ?_; exact BK133.out) hb) (blk_below (g := gb138) (o := .cells #[.slice Ao81 t134.length co81] 26 (0, 0)) (by refine zG ?_; refine blk_far ?_ NB138_150.out _; refine zG ?_; exact BK138.out) hb) (blk_below (g := gb150) (o := .cells #[.slice Ao164 t147.length co164] 26 (0, 0)) (by refine zG ?_; refine blk_put (cs := #[.slice none 0 0]) ?_ 0 _ rfl; refine zG ?_; exact BK150.out) hb) (below_step (zB) hb); clear HO_106000 HO_129000 HO_134000 HO_139000 HO149 BK105 BK128 BK133 BK138 BK150 HB; obtain ⟨HO_106000, HO_129000, HO_134000, HO_139000, HO149, HO153, BK105, BK128, BK133, BK138, BK150, HB⟩ := n_; (try clear hb); (try clear hb2); (try clear hk); (try clear hi); (try clear ho0); have hcz171_0 := zc BK150.out; have hfz171_0 := blk_frozen BK150.out 0) | (go_at_call 19; (with_reducible refine (spec_TurnsByPowers.calls kj96 _ _ t147 t155 t158 _ ?side1 ?side2 A158.out).mono ?_); (case side1 => exact zC (Kd.R_reads' HO149.out).2.2); (case side2 => exact (Kd.R_reads' HO149.out).2.1); rintro e w172 ⟨v156, rfl, ho0, hb⟩; have n_ := y13 (Kd.R_elder' (zR HO_106000.out) (Kd.R_base ho0) hb) (Kd.R_elder' (zR HO_129000.out) (Kd.R_base ho0) hb) (Kd.R_elder' (zR HO_134000.out) (Kd.R_base ho0) hb) (Kd.R_elder' (zR HO_139000.out) (Kd.R_base ho0) hb) (Kd.R_elder' (zR HO149.out) (Kd.R_base ho0) hb) (Kd.R_elder' (zR HO153.out) (Kd.R_base ho0) hb) (Kd.R_lower (Kd.R_new' (Kd.R_new' (Kd.R_new' (Kd.R_new' (Kd.R_new' (Kd.R_new' ho0 (Kd.R_lt (zR HO_106000.out))) (Kd.R_lt (zR HO_129000.out))) (Kd.R_lt (zR HO_134000.out))) (Kd.R_lt (zR HO_139000.out))) (Kd.R_lt (zR HO149.out))) (Kd.R_lt (zR HO153.out))) (below_size (zB))) (zb BK105.out hb) (zb BK128.out hb) (zb BK133.out hb) (zb BK138.out hb) (zb BK150.out hb) (below_step (zB) hb); clear HO_106000 HO_129000 HO_134000 HO_139000 HO149 HO153 BK105 BK128 BK133 BK138 BK150 HB; obtain ⟨HO_106000, HO_129000, HO_134000, HO_139000, HO149, HO153, HO157, BK105, BK128, BK133, BK138, BK150, HB⟩ := n_; (try clear hb); (try clear hb2); (try clear hk); (try clear hi); (try clear ho0); have hcz173_0 := zc BK150.out; have hfz173_0 := blk_frozen BK150.out 0) | (go_at_call 20; (with_reducible refine (impl_TurnsByOne.calls kj96 _ _ t147 t159 t162 t163 _ ?side1 ?side2 A159.out).mono ?_); (case side1 => exact zC (Kd.R_reads' HO149.out).2.2); (case side2 => exact (Kd.R_reads' HO149.out).2.1); rintro e w174 ⟨v160, rfl, ho0, hb⟩; have n_ := y14 (Kd.R_elder' (zR HO_106000.out) (Kd.R_base ho0) hb) (Kd.R_elder' (zR HO_129000.out) (Kd.R_base ho0) hb) (Kd.R_elder' (zR HO_134000.out) (Kd.R_base ho0) hb) (Kd.R_elder' (zR HO_139000.out) (Kd.R_base ho0) hb) (Kd.R_elder' (zR HO149.out) (Kd.R_base ho0) hb) (Kd.R_elder' (zR HO153.out) (Kd.R_base ho0) hb) (Kd.R_elder' (zR HO157.out) (Kd.R_base ho0) hb) (Kd.R_lower (Kd.R_new' (Kd.R_new' (Kd.R_new' (Kd.R_new' (Kd.R_new' (Kd.R_new' (Kd.R_new' ho0 (Kd.R_lt (zR HO_106000.out))) (Kd.R_lt (zR HO_129000.out))) (Kd.R_lt (zR HO_134000.out))) (Kd.R_lt (zR HO_139000.out))) (Kd.R_lt (zR HO149.out))) (Kd.R_lt (zR HO153.out))) (Kd.R_lt (zR HO157.out))) (below_size (zB))) (zb BK105.out hb) (zb BK128.out hb) (zb BK133.out hb) (zb BK138.out hb) (zb BK150.out hb) (below_step (zB) hb); clear HO_106000 HO_129000 HO_134000 HO_139000 HO149 HO153 HO157 BK105 BK128 BK133 BK138 BK150 HB; obtain ⟨HO_106000, HO_129000, HO_134000, HO_139000, HO149, HO153, HO157, HO161, BK105, BK128, BK133, BK138, BK150, HB⟩ := n_; (try clear hb); (try clear hb2); (try clear hk); (try clear hi); (try clear ho0); have hcz175_0 := zc BK150.out; have hfz175_0 := blk_frozen BK150.out 0) | (go_at_call 21; (with_reducible refine (spec_TurnsByOne.calls kj96 _ _ t147 t164 t167 t168 _ ?side1 ?side2 A160.out).mono ?_); (case side1 => exact zC (Kd.R_reads' HO149.out).2.2); (case side2 => exact (Kd.R_reads' HO149.out).2.1); rintro e w176 ⟨v165, rfl, ho0, hb⟩; have n0_ := Aside0.mk (Kd.R_elder' (zR HO_106000.out) (Kd.R_base ho0) hb); have n1_ := Aside0.mk (Kd.R_elder' (zR HO_129000.out) (Kd.R_base ho0) hb); have n2_ := Aside0.mk (Kd.R_elder' (zR HO_134000.out) (Kd.R_base ho0) hb); have n3_ := Aside0.mk (Kd.R_elder' (zR HO_139000.out) (Kd.R_base ho0) hb); have n4_ := Aside0.mk (Kd.R_elder' (zR HO149.out) (Kd.R_base ho0) hb); have n5_ := Aside0.mk (Kd.R_elder' (zR HO153.out) (Kd.R_base ho0) hb); have n6_ := Aside0.mk (Kd.R_elder' (zR HO157.out) (Kd.R_base ho0) hb); have n7_ := Aside0.mk (Kd.R_elder' (zR HO161.out) (Kd.R_base ho0) hb); have n8_ := Aside0.mk (Kd.R_lower (Kd.R_new' (Kd.R_new' (Kd.R_new' (Kd.R_new' (Kd.R_new' (Kd.R_new' (Kd.R_new' (Kd.R_new' ho0 (Kd.R_lt (zR HO_106000.out))) (Kd.R_lt (zR HO_129000.out))) (Kd.R_lt (zR HO_134000.out))) (Kd.R_lt (zR HO_139000.out))) (Kd.R_lt (zR HO149.out))) (Kd.R_lt (zR HO153.out))) (Kd.R_lt (zR HO157.out))) (Kd.R_lt (zR HO161.out))) (below_size (zB))); have n9_ := Aside0.mk (zb BK105.out hb); have n10_ := Aside0.mk (zb BK128.out hb); have n11_ := Aside0.mk (zb BK133.out hb); have n12_ := Aside0.mk (zb BK138.out hb); have n13_ := Aside0.mk (zb BK150.out hb); have n14_ := Aside0.mk (below_step (zB) hb); clear HO_106000; clear HO_129000; clear HO_134000; clear HO_139000; clear HO149; clear HO153; clear HO157; clear HO161; clear BK105; clear BK128; clear BK133; clear BK138; clear BK150; clear HB; have HO_106000 := n0_; have HO_129000 := n1_; have HO_134000 := n2_; have HO_139000 := n3_; have HO149 := n4_; have HO153 := n5_; have HO157 := n6_; have HO161 := n7_; have HO166 := n8_; have BK105 := n9_; have BK128 := n10_; have BK133 := n11_; have BK138 := n12_; have BK150 := n13_; have HB := n14_; clear n0_ n1_ n2_ n3_ n4_ n5_ n6_ n7_ n8_ n9_ n10_ n11_ n12_ n13_ n14_; (try clear hb); (try clear hb2); (try clear hk); (try clear hi); (try clear ho0)))
                             repeat (go_quiet (fail); go_upto_region 38 with (fail))
                             (try simp only [Act.put, List.setIfInBounds_toArray, List.set_cons_zero, List.set_cons_succ])
                             go_cut [271] (fun v271 wc => ∃ (kq : Nat) (x271_160 : Bool), v271 = .bool x271_160 ∧ Aside0 (laws_FnHarmonic.j7 kq t151 t154 t159 t163 x271_160 t147 = some r) ∧ Aside0 (kq ≤ kj96) ∧ Aside0 (Kd.R (Kd.int .i64) 2 wc w.heap.size (fun k_ => some k_ ≠ (v160 : Value).ownBlock ∧ some k_ ≠ ((.slice Ao12 t102.length co12) : Value).ownBlock ∧ some k_ ≠ ((.slice Ao69 t124.length co69) : Value).ownBlock ∧ some k_ ≠ ((.slice Ao74 t129.length co74) : Value).ownBlock ∧ some k_ ≠ ((.slice Ao81 t134.length co81) : Value).ownBlock ∧ some k_ ≠ ((.slice Ao164 t147.length co164) : Value).ownBlock) v152 t151) ∧ Aside0 (Kd.R (Kd.int .i64) 2 wc w.heap.size (fun k_ => some k_ ≠ (v152 : Value).ownBlock ∧ some k_ ≠ ((.slice Ao12 t102.length co12) : Value).ownBlock ∧ some k_ ≠ ((.slice Ao69 t124.length co69) : Value).ownBlock ∧ some k_ ≠ ((.slice Ao74 t129.length co74) : Value).ownBlock ∧ some k_ ≠ ((.slice Ao81 t134.length co81) : Value).ownBlock ∧ some k_ ≠ ((.slice Ao164 t147.length co164) : Value).ownBlock) v160 t159) ∧ Aside0 (Kd.R (Kd.int .i64) 2 wc w.heap.size (fun k_ => some k_ ≠ (v152 : Value).ownBlock ∧ some k_ ≠ (v160 : Value).ownBlock ∧ some k_ ≠ ((.slice Ao69 t124.length co69) : Value).ownBlock ∧ some k_ ≠ ((.slice Ao74 t129.length co74) : Value).ownBlock ∧ some k_ ≠ ((.slice Ao81 t134.length co81) : Value).ownBlock ∧ some k_ ≠ ((.slice Ao164 t147.length co164) : Value).ownBlock) (.slice Ao12 t102.length co12) t102) ∧ Aside0 (Kd.R (Kd.int .i64) 2 wc w.heap.size (fun k_ => some k_ ≠ (v152 : Value).ownBlock ∧ some k_ ≠ (v160 : Value).ownBlock ∧ some k_ ≠ ((.slice Ao12 t102.length co12) : Value).ownBlock ∧ some k_ ≠ ((.slice Ao74 t129.length co74) : Value).ownBlock ∧ some k_ ≠ ((.slice Ao81 t134.length co81) : Value).ownBlock ∧ some k_ ≠ ((.slice Ao164 t147.length co164) : Value).ownBlock) (.slice Ao69 t124.length co69) t124) ∧ Aside0 (Kd.R (Kd.int .i64) 2 wc w.heap.size (fun k_ => some k_ ≠ (v152 : Value).ownBlock ∧ some k_ ≠ (v160 : Value).ownBlock ∧ some k_ ≠ ((.slice Ao12 t102.length co12) : Value).ownBlock ∧ some k_ ≠ ((.slice Ao69 t124.length co69) : Value).ownBlock ∧ some k_ ≠ ((.slice Ao81 t134.length co81) : Value).ownBlock ∧ some k_ ≠ ((.slice Ao164 t147.length co164) : Value).ownBlock) (.slice Ao74 t129.length co74) t129) ∧ Aside0 (Kd.R (Kd.int .i64) 2 wc w.heap.size (fun k_ => some k_ ≠ (v152 : Value).ownBlock ∧ some k_ ≠ (v160 : Value).ownBlock ∧ some k_ ≠ ((.slice Ao12 t102.length co12) : Value).ownBlock ∧ some k_ ≠ ((.slice Ao69 t124.length co69) : Value).ownBlock ∧ some k_ ≠ ((.slice Ao74 t129.length co74) : Value).ownBlock ∧ some k_ ≠ ((.slice Ao164 t147.length co164) : Value).ownBlock) (.slice Ao81 t134.length co81) t134) ∧ Aside0 (Kd.R (Kd.int .i64) 2 wc w.heap.size (fun k_ => some k_ ≠ (v152 : Value).ownBlock ∧ some k_ ≠ (v160 : Value).ownBlock ∧ some k_ ≠ ((.slice Ao12 t102.length co12) : Value).ownBlock ∧ some k_ ≠ ((.slice Ao69 t124.length co69) : Value).ownBlock ∧ some k_ ≠ ((.slice Ao74 t129.length co74) : Value).ownBlock ∧ some k_ ≠ ((.slice Ao81 t134.length co81) : Value).ownBlock) (.slice Ao164 t147.length co164) t147) ∧ Aside0 (wc.heap[gb105]? = some (.cells #[(.slice Ao12 t102.length co12)] 26 (0, 0))) ∧ Aside0 (wc.heap[gb128]? = some (.cells #[(.slice Ao69 t124.length co69)] 26 (0, 0))) ∧ Aside0 (wc.heap[gb133]? = some (.cells #[(.slice Ao74 t129.length co74)] 26 (0, 0))) ∧ Aside0 (wc.heap[gb138]? = some (.cells #[(.slice Ao81 t134.length co81)] 26 (0, 0))) ∧ Aside0 (wc.heap[gb150]? = some (.cells #[(.slice Ao164 t147.length co164)] 26 (0, 0))) ∧ Aside0 (Below w.heap.size w wc))
                             case first =>
                               as_aux_lemma =>
                                have H := HC161.out
                                clear HC161
                                by_cases c177 : t154 = t158
                                · rw [if_pos c177] at H
                                  have c177b0 : (t154 == t158) = true := beq_iff_eq.mpr c177
                                  have c177b1 : (t154 != t158) = false := bne_eq_false_iff_eq.mpr c177
                                  clear c177
                                  (first | rw [c177b0] | (simp only [i64_w, i32_w]; rw [c177b0]) | skip)
                                  replace H := Option.bind_eq_some_iff.mp H
                                  obtain ⟨t169, A1780, H⟩ := H
                                  replace H : (if t169 = true then (if t163 = t168 then ((laws_likeInts.f kj96 t159 t164).bind fun t170 => (if t170 = true then (if t162 = t167 then (if t154 = 0 then (laws_FnHarmonic.j7 kj96 t151 t154 t159 t163 (t163 != 0) t147) else (laws_FnHarmonic.j7 kj96 t151 t154 t159 t163 false t147)) else (laws_FnHarmonic.j7 kj96 t151 t154 t159 t163 true t147)) else (laws_FnHarmonic.j7 kj96 t151 t154 t159 t163 true t147))) else (laws_FnHarmonic.j7 kj96 t151 t154 t159 t163 true t147)) else (laws_FnHarmonic.j7 kj96 t151 t154 t159 t163 true t147)) = some r := H
                                  have A178 := Aside0.mk A1780
                                  clear A1780
                                  by_cases c179 : t169 = true
                                  · subst c179
                                    have H1 : (if t163 = t168 then ((laws_likeInts.f kj96 t159 t164).bind fun t170 => (if t170 = true then (if t162 = t167 then (if t154 = 0 then (laws_FnHarmonic.j7 kj96 t151 t154 t159 t163 (t163 != 0) t147) else (laws_FnHarmonic.j7 kj96 t151 t154 t159 t163 false t147)) else (laws_FnHarmonic.j7 kj96 t151 t154 t159 t163 true t147)) else (laws_FnHarmonic.j7 kj96 t151 t154 t159 t163 true t147))) else (laws_FnHarmonic.j7 kj96 t151 t154 t159 t163 true t147)) = some r := by rw [if_pos rfl] at H; exact H
                                    clear H
                                    have H := H1
                                    clear H1
                                    by_cases c180 : t163 = t168
                                    · rw [if_pos c180] at H
                                      have c180b0 : (t163 == t168) = true := beq_iff_eq.mpr c180
                                      have c180b1 : (t163 != t168) = false := bne_eq_false_iff_eq.mpr c180
                                      clear c180
                                      replace H := Option.bind_eq_some_iff.mp H
                                      obtain ⟨t170, A1810, H⟩ := H
                                      replace H : (if t170 = true then (if t162 = t167 then (if t154 = 0 then (laws_FnHarmonic.j7 kj96 t151 t154 t159 t163 (t163 != 0) t147) else (laws_FnHarmonic.j7 kj96 t151 t154 t159 t163 false t147)) else (laws_FnHarmonic.j7 kj96 t151 t154 t159 t163 true t147)) else (laws_FnHarmonic.j7 kj96 t151 t154 t159 t163 true t147)) = some r := H
                                      have A181 := Aside0.mk A1810
                                      clear A1810
                                      by_cases c182 : t170 = true
                                      · subst c182
                                        have H1 : (if t162 = t167 then (if t154 = 0 then (laws_FnHarmonic.j7 kj96 t151 t154 t159 t163 (t163 != 0) t147) else (laws_FnHarmonic.j7 kj96 t151 t154 t159 t163 false t147)) else (laws_FnHarmonic.j7 kj96 t151 t154 t159 t163 true t147)) = some r := by rw [if_pos rfl] at H; exact H
                                        clear H
                                        have H := H1
                                        clear H1
                                        by_cases c183 : t162 = t167
                                        · rw [if_pos c183] at H
                                          have c183b0 : (t162 == t167) = true := beq_iff_eq.mpr c183
                                          have c183b1 : (t162 != t167) = false := bne_eq_false_iff_eq.mpr c183
                                          clear c183
                                          by_cases c184 : t154 = 0
                                          · rw [if_pos c184] at H
                                            have c184b0 : (t154 == 0) = true := beq_iff_eq.mpr c184
                                            have c184b1 : (t154 != 0) = false := bne_eq_false_iff_eq.mpr c184
                                            clear c184
                                            have H' := Aside0.mk H
                                            clear H
                                            obtain ⟨Ao185, co185, eo185⟩ := Kd.R_slice HO153.out
                                            subst eo185
                                            obtain ⟨Ao186, co186, eo186⟩ := Kd.R_slice HO157.out
                                            subst eo186
                                            go_wp2_with (first | (go_at_call 10; (with_reducible refine (laws_likeInts.calls kj96 _ _ t151 _ _ t155 true _ ?side1 ?side2 ?side3 ?side4 A178.out).mono ?_); (case side1 => exact zC (Kd.R_reads' HO153.out).2.2); (case side2 => exact (Kd.R_reads' HO153.out).2.1); (case side3 => exact zC (Kd.R_reads' HO157.out).2.2); (case side4 => exact (Kd.R_reads' HO157.out).2.1); rintro e w' ⟨rfl, ⟨nd, rfl⟩⟩; (try exact zd); obtain ⟨Ao187, co187, eo187⟩ := Kd.R_slice HO161.out; subst eo187; obtain ⟨Ao188, co188, eo188⟩ := Kd.R_slice HO166.out; subst eo188) | (go_at_call 10; (with_reducible refine (laws_likeInts.calls kj96 _ _ t159 _ _ t164 true _ ?side1 ?side2 ?side3 ?side4 A181.out).mono ?_); (case side1 => exact zC (Kd.R_reads' HO161.out).2.2); (case side2 => exact (Kd.R_reads' HO161.out).2.1); (case side3 => exact zC (Kd.R_reads' HO166.out).2.2); (case side4 => exact (Kd.R_reads' HO166.out).2.1); rintro e w' ⟨rfl, ⟨nd, rfl⟩⟩; (try exact zd)))
                                            repeat (go_quiet (fail); try go_wp2)
                                            go_meet
                                            case rel => exact ⟨_, ((t163 != 0)), zF, H', ⟨by have := HJ8.out; have := HJ31.out; have := HJ48.out; have := HJ65.out; have := HJ96.out; first | omega | exact Nat.le_refl _⟩, ⟨by refine zR ?_; exact Kd.R_mono HO153.out (fun _ hk => ⟨hk.1.2, ⟨hk.1.1.1.1.1.1.1.2, ⟨hk.1.1.1.1.1.1.2, ⟨hk.1.1.1.1.1.2, ⟨hk.1.1.1.1.2, hk.1.1.1.2⟩⟩⟩⟩⟩)⟩, ⟨by refine zR ?_; exact Kd.R_mono HO161.out (fun _ hk => ⟨hk.1.1.2, ⟨hk.1.1.1.1.1.1.1.2, ⟨hk.1.1.1.1.1.1.2, ⟨hk.1.1.1.1.1.2, ⟨hk.1.1.1.1.2, hk.1.1.1.2⟩⟩⟩⟩⟩)⟩, ⟨by refine zR ?_; exact Kd.R_mono HO_106000.out (fun _ hk => ⟨hk.1.1.1.2, ⟨hk.1.2, ⟨hk.1.1.1.1.1.1, ⟨hk.1.1.1.1.1.2.1, ⟨hk.1.1.1.1.1.2.2, hk.1.1.1.1.2⟩⟩⟩⟩⟩)⟩, ⟨by refine zR ?_; exact Kd.R_mono HO_129000.out (fun _ hk => ⟨hk.1.1.1.2, ⟨hk.1.2, ⟨hk.1.1.1.1.1.1, ⟨hk.1.1.1.1.1.2.1, ⟨hk.1.1.1.1.1.2.2, hk.1.1.1.1.2⟩⟩⟩⟩⟩)⟩, ⟨by refine zR ?_; exact Kd.R_mono HO_134000.out (fun _ hk => ⟨hk.1.1.1.2, ⟨hk.1.2, ⟨hk.1.1.1.1.1.1, ⟨hk.1.1.1.1.1.2.1, ⟨hk.1.1.1.1.1.2.2, hk.1.1.1.1.2⟩⟩⟩⟩⟩)⟩, ⟨by refine zR ?_; exact Kd.R_mono HO_139000.out (fun _ hk => ⟨hk.1.1.1.2, ⟨hk.1.2, ⟨hk.1.1.1.1.1.1, ⟨hk.1.1.1.1.1.2.1, ⟨hk.1.1.1.1.1.2.2, hk.1.1.1.1.2⟩⟩⟩⟩⟩)⟩, ⟨by refine zR ?_; exact Kd.R_mono HO149.out (fun _ hk => ⟨hk.1.1.1.2, ⟨hk.1.2, ⟨hk.1.1.1.1.1.1.1.2, ⟨hk.1.1.1.1.1.1.2, ⟨hk.1.1.1.1.1.2, hk.1.1.1.1.2⟩⟩⟩⟩⟩)⟩, ⟨zG BK105.out⟩, ⟨zG BK128.out⟩, ⟨zG BK133.out⟩, ⟨zG BK138.out⟩, ⟨zG BK150.out⟩, ⟨zB⟩⟩
                                          · rw [if_neg c184] at H
                                            have c184b0 : (t154 == 0) = false := beq_eq_false_iff_ne.mpr c184
                                            have c184b1 : (t154 != 0) = true := bne_iff_ne.mpr c184
                                            have H' := Aside0.mk H
                                            clear H
                                            obtain ⟨Ao189, co189, eo189⟩ := Kd.R_slice HO153.out
                                            subst eo189
                                            obtain ⟨Ao190, co190, eo190⟩ := Kd.R_slice HO157.out
                                            subst eo190
                                            go_wp2_with (first | (go_at_call 10; (with_reducible refine (laws_likeInts.calls kj96 _ _ t151 _ _ t155 true _ ?side1 ?side2 ?side3 ?side4 A178.out).mono ?_); (case side1 => exact zC (Kd.R_reads' HO153.out).2.2); (case side2 => exact (Kd.R_reads' HO153.out).2.1); (case side3 => exact zC (Kd.R_reads' HO157.out).2.2); (case side4 => exact (Kd.R_reads' HO157.out).2.1); rintro e w' ⟨rfl, ⟨nd, rfl⟩⟩; (try exact zd); obtain ⟨Ao191, co191, eo191⟩ := Kd.R_slice HO161.out; subst eo191; obtain ⟨Ao192, co192, eo192⟩ := Kd.R_slice HO166.out; subst eo192) | (go_at_call 10; (with_reducible refine (laws_likeInts.calls kj96 _ _ t159 _ _ t164 true _ ?side1 ?side2 ?side3 ?side4 A181.out).mono ?_); (case side1 => exact zC (Kd.R_reads' HO161.out).2.2); (case side2 => exact (Kd.R_reads' HO161.out).2.1); (case side3 => exact zC (Kd.R_reads' HO166.out).2.2); (case side4 => exact (Kd.R_reads' HO166.out).2.1); rintro e w' ⟨rfl, ⟨nd, rfl⟩⟩; (try exact zd)))
                                            repeat (go_quiet (fail); try go_wp2)
                                            go_meet
                                            case rel => exact ⟨_, (false), zF, H', ⟨by have := HJ8.out; have := HJ31.out; have := HJ48.out; have := HJ65.out; have := HJ96.out; first | omega | exact Nat.le_refl _⟩, ⟨by refine zR ?_; exact Kd.R_mono HO153.out (fun _ hk => ⟨hk.1.2, ⟨hk.1.1.1.1.1.1.1.2, ⟨hk.1.1.1.1.1.1.2, ⟨hk.1.1.1.1.1.2, ⟨hk.1.1.1.1.2, hk.1.1.1.2⟩⟩⟩⟩⟩)⟩, ⟨by refine zR ?_; exact Kd.R_mono HO161.out (fun _ hk => ⟨hk.1.1.2, ⟨hk.1.1.1.1.1.1.1.2, ⟨hk.1.1.1.1.1.1.2, ⟨hk.1.1.1.1.1.2, ⟨hk.1.1.1.1.2, hk.1.1.1.2⟩⟩⟩⟩⟩)⟩, ⟨by refine zR ?_; exact Kd.R_mono HO_106000.out (fun _ hk => ⟨hk.1.1.1.2, ⟨hk.1.2, ⟨hk.1.1.1.1.1.1, ⟨hk.1.1.1.1.1.2.1, ⟨hk.1.1.1.1.1.2.2, hk.1.1.1.1.2⟩⟩⟩⟩⟩)⟩, ⟨by refine zR ?_; exact Kd.R_mono HO_129000.out (fun _ hk => ⟨hk.1.1.1.2, ⟨hk.1.2, ⟨hk.1.1.1.1.1.1, ⟨hk.1.1.1.1.1.2.1, ⟨hk.1.1.1.1.1.2.2, hk.1.1.1.1.2⟩⟩⟩⟩⟩)⟩, ⟨by refine zR ?_; exact Kd.R_mono HO_134000.out (fun _ hk => ⟨hk.1.1.1.2, ⟨hk.1.2, ⟨hk.1.1.1.1.1.1, ⟨hk.1.1.1.1.1.2.1, ⟨hk.1.1.1.1.1.2.2, hk.1.1.1.1.2⟩⟩⟩⟩⟩)⟩, ⟨by refine zR ?_; exact Kd.R_mono HO_139000.out (fun _ hk => ⟨hk.1.1.1.2, ⟨hk.1.2, ⟨hk.1.1.1.1.1.1, ⟨hk.1.1.1.1.1.2.1, ⟨hk.1.1.1.1.1.2.2, hk.1.1.1.1.2⟩⟩⟩⟩⟩)⟩, ⟨by refine zR ?_; exact Kd.R_mono HO149.out (fun _ hk => ⟨hk.1.1.1.2, ⟨hk.1.2, ⟨hk.1.1.1.1.1.1.1.2, ⟨hk.1.1.1.1.1.1.2, ⟨hk.1.1.1.1.1.2, hk.1.1.1.1.2⟩⟩⟩⟩⟩)⟩, ⟨zG BK105.out⟩, ⟨zG BK128.out⟩, ⟨zG BK133.out⟩, ⟨zG BK138.out⟩, ⟨zG BK150.out⟩, ⟨zB⟩⟩
                                        · rw [if_neg c183] at H
                                          have c183b0 : (t162 == t167) = false := beq_eq_false_iff_ne.mpr c183
                                          have c183b1 : (t162 != t167) = true := bne_iff_ne.mpr c183
                                          have H' := Aside0.mk H
                                          clear H
                                          obtain ⟨Ao193, co193, eo193⟩ := Kd.R_slice HO153.out
                                          subst eo193
                                          obtain ⟨Ao194, co194, eo194⟩ := Kd.R_slice HO157.out
                                          subst eo194
                                          go_wp2_with (first | (go_at_call 10; (with_reducible refine (laws_likeInts.calls kj96 _ _ t151 _ _ t155 true _ ?side1 ?side2 ?side3 ?side4 A178.out).mono ?_); (case side1 => exact zC (Kd.R_reads' HO153.out).2.2); (case side2 => exact (Kd.R_reads' HO153.out).2.1); (case side3 => exact zC (Kd.R_reads' HO157.out).2.2); (case side4 => exact (Kd.R_reads' HO157.out).2.1); rintro e w' ⟨rfl, ⟨nd, rfl⟩⟩; (try exact zd); obtain ⟨Ao195, co195, eo195⟩ := Kd.R_slice HO161.out; subst eo195; obtain ⟨Ao196, co196, eo196⟩ := Kd.R_slice HO166.out; subst eo196) | (go_at_call 10; (with_reducible refine (laws_likeInts.calls kj96 _ _ t159 _ _ t164 true _ ?side1 ?side2 ?side3 ?side4 A181.out).mono ?_); (case side1 => exact zC (Kd.R_reads' HO161.out).2.2); (case side2 => exact (Kd.R_reads' HO161.out).2.1); (case side3 => exact zC (Kd.R_reads' HO166.out).2.2); (case side4 => exact (Kd.R_reads' HO166.out).2.1); rintro e w' ⟨rfl, ⟨nd, rfl⟩⟩; (try exact zd)))
                                          repeat (go_quiet (fail); try go_wp2)
                                          go_meet
                                          case rel => exact ⟨_, (true), zF, H', ⟨by have := HJ8.out; have := HJ31.out; have := HJ48.out; have := HJ65.out; have := HJ96.out; first | omega | exact Nat.le_refl _⟩, ⟨by refine zR ?_; exact Kd.R_mono HO153.out (fun _ hk => ⟨hk.1.2, ⟨hk.1.1.1.1.1.1.1.2, ⟨hk.1.1.1.1.1.1.2, ⟨hk.1.1.1.1.1.2, ⟨hk.1.1.1.1.2, hk.1.1.1.2⟩⟩⟩⟩⟩)⟩, ⟨by refine zR ?_; exact Kd.R_mono HO161.out (fun _ hk => ⟨hk.1.1.2, ⟨hk.1.1.1.1.1.1.1.2, ⟨hk.1.1.1.1.1.1.2, ⟨hk.1.1.1.1.1.2, ⟨hk.1.1.1.1.2, hk.1.1.1.2⟩⟩⟩⟩⟩)⟩, ⟨by refine zR ?_; exact Kd.R_mono HO_106000.out (fun _ hk => ⟨hk.1.1.1.2, ⟨hk.1.2, ⟨hk.1.1.1.1.1.1, ⟨hk.1.1.1.1.1.2.1, ⟨hk.1.1.1.1.1.2.2, hk.1.1.1.1.2⟩⟩⟩⟩⟩)⟩, ⟨by refine zR ?_; exact Kd.R_mono HO_129000.out (fun _ hk => ⟨hk.1.1.1.2, ⟨hk.1.2, ⟨hk.1.1.1.1.1.1, ⟨hk.1.1.1.1.1.2.1, ⟨hk.1.1.1.1.1.2.2, hk.1.1.1.1.2⟩⟩⟩⟩⟩)⟩, ⟨by refine zR ?_; exact Kd.R_mono HO_134000.out (fun _ hk => ⟨hk.1.1.1.2, ⟨hk.1.2, ⟨hk.1.1.1.1.1.1, ⟨hk.1.1.1.1.1.2.1, ⟨hk.1.1.1.1.1.2.2, hk.1.1.1.1.2⟩⟩⟩⟩⟩)⟩, ⟨by refine zR ?_; exact Kd.R_mono HO_139000.out (fun _ hk => ⟨hk.1.1.1.2, ⟨hk.1.2, ⟨hk.1.1.1.1.1.1, ⟨hk.1.1.1.1.1.2.1, ⟨hk.1.1.1.1.1.2.2, hk.1.1.1.1.2⟩⟩⟩⟩⟩)⟩, ⟨by refine zR ?_; exact Kd.R_mono HO149.out (fun _ hk => ⟨hk.1.1.1.2, ⟨hk.1.2, ⟨hk.1.1.1.1.1.1.1.2, ⟨hk.1.1.1.1.1.1.2, ⟨hk.1.1.1.1.1.2, hk.1.1.1.1.2⟩⟩⟩⟩⟩)⟩, ⟨zG BK105.out⟩, ⟨zG BK128.out⟩, ⟨zG BK133.out⟩, ⟨zG BK138.out⟩, ⟨zG BK150.out⟩, ⟨zB⟩⟩
                                      · replace c182 := Bool.eq_false_iff.mpr c182
                                        subst c182
                                        have H1 : (laws_FnHarmonic.j7 kj96 t151 t154 t159 t163 true t147) = some r := by rw [if_neg (show ¬ (false = true) by decide)] at H; exact H
                                        clear H
                                        have H := H1
                                        clear H1
                                        have H' := Aside0.mk H
                                        clear H
                                        obtain ⟨Ao197, co197, eo197⟩ := Kd.R_slice HO153.out
                                        subst eo197
                                        obtain ⟨Ao198, co198, eo198⟩ := Kd.R_slice HO157.out
                                        subst eo198
                                        go_wp2_with (first | (go_at_call 10; (with_reducible refine (laws_likeInts.calls kj96 _ _ t151 _ _ t155 true _ ?side1 ?side2 ?side3 ?side4 A178.out).mono ?_); (case side1 => exact zC (Kd.R_reads' HO153.out).2.2); (case side2 => exact (Kd.R_reads' HO153.out).2.1); (case side3 => exact zC (Kd.R_reads' HO157.out).2.2); (case side4 => exact (Kd.R_reads' HO157.out).2.1); rintro e w' ⟨rfl, ⟨nd, rfl⟩⟩; (try exact zd); obtain ⟨Ao199, co199, eo199⟩ := Kd.R_slice HO161.out; subst eo199; obtain ⟨Ao200, co200, eo200⟩ := Kd.R_slice HO166.out; subst eo200) | (go_at_call 10; (with_reducible refine (laws_likeInts.calls kj96 _ _ t159 _ _ t164 false _ ?side1 ?side2 ?side3 ?side4 A181.out).mono ?_); (case side1 => exact zC (Kd.R_reads' HO161.out).2.2); (case side2 => exact (Kd.R_reads' HO161.out).2.1); (case side3 => exact zC (Kd.R_reads' HO166.out).2.2); (case side4 => exact (Kd.R_reads' HO166.out).2.1); rintro e w' ⟨rfl, ⟨nd, rfl⟩⟩; (try exact zd)))
                                        repeat (go_quiet (fail); try go_wp2)
                                        go_meet
                                        case rel => exact ⟨_, (true), zF, H', ⟨by have := HJ8.out; have := HJ31.out; have := HJ48.out; have := HJ65.out; have := HJ96.out; first | omega | exact Nat.le_refl _⟩, ⟨by refine zR ?_; exact Kd.R_mono HO153.out (fun _ hk => ⟨hk.1.2, ⟨hk.1.1.1.1.1.1.1.2, ⟨hk.1.1.1.1.1.1.2, ⟨hk.1.1.1.1.1.2, ⟨hk.1.1.1.1.2, hk.1.1.1.2⟩⟩⟩⟩⟩)⟩, ⟨by refine zR ?_; exact Kd.R_mono HO161.out (fun _ hk => ⟨hk.1.1.2, ⟨hk.1.1.1.1.1.1.1.2, ⟨hk.1.1.1.1.1.1.2, ⟨hk.1.1.1.1.1.2, ⟨hk.1.1.1.1.2, hk.1.1.1.2⟩⟩⟩⟩⟩)⟩, ⟨by refine zR ?_; exact Kd.R_mono HO_106000.out (fun _ hk => ⟨hk.1.1.1.2, ⟨hk.1.2, ⟨hk.1.1.1.1.1.1, ⟨hk.1.1.1.1.1.2.1, ⟨hk.1.1.1.1.1.2.2, hk.1.1.1.1.2⟩⟩⟩⟩⟩)⟩, ⟨by refine zR ?_; exact Kd.R_mono HO_129000.out (fun _ hk => ⟨hk.1.1.1.2, ⟨hk.1.2, ⟨hk.1.1.1.1.1.1, ⟨hk.1.1.1.1.1.2.1, ⟨hk.1.1.1.1.1.2.2, hk.1.1.1.1.2⟩⟩⟩⟩⟩)⟩, ⟨by refine zR ?_; exact Kd.R_mono HO_134000.out (fun _ hk => ⟨hk.1.1.1.2, ⟨hk.1.2, ⟨hk.1.1.1.1.1.1, ⟨hk.1.1.1.1.1.2.1, ⟨hk.1.1.1.1.1.2.2, hk.1.1.1.1.2⟩⟩⟩⟩⟩)⟩, ⟨by refine zR ?_; exact Kd.R_mono HO_139000.out (fun _ hk => ⟨hk.1.1.1.2, ⟨hk.1.2, ⟨hk.1.1.1.1.1.1, ⟨hk.1.1.1.1.1.2.1, ⟨hk.1.1.1.1.1.2.2, hk.1.1.1.1.2⟩⟩⟩⟩⟩)⟩, ⟨by refine zR ?_; exact Kd.R_mono HO149.out (fun _ hk => ⟨hk.1.1.1.2, ⟨hk.1.2, ⟨hk.1.1.1.1.1.1.1.2, ⟨hk.1.1.1.1.1.1.2, ⟨hk.1.1.1.1.1.2, hk.1.1.1.1.2⟩⟩⟩⟩⟩)⟩, ⟨zG BK105.out⟩, ⟨zG BK128.out⟩, ⟨zG BK133.out⟩, ⟨zG BK138.out⟩, ⟨zG BK150.out⟩, ⟨zB⟩⟩
                                    · rw [if_neg c180] at H
                                      have c180b0 : (t163 == t168) = false := beq_eq_false_iff_ne.mpr c180
                                      have c180b1 : (t163 != t168) = true := bne_iff_ne.mpr c180
                                      have H' := Aside0.mk H
                                      clear H
                                      obtain ⟨Ao201, co201, eo201⟩ := Kd.R_slice HO153.out
                                      subst eo201
                                      obtain ⟨Ao202, co202, eo202⟩ := Kd.R_slice HO157.out
                                      subst eo202
                                      go_wp2_with (first | (go_at_call 10; (with_reducible refine (laws_likeInts.calls kj96 _ _ t151 _ _ t155 true _ ?side1 ?side2 ?side3 ?side4 A178.out).mono ?_); (case side1 => exact zC (Kd.R_reads' HO153.out).2.2); (case side2 => exact (Kd.R_reads' HO153.out).2.1); (case side3 => exact zC (Kd.R_reads' HO157.out).2.2); (case side4 => exact (Kd.R_reads' HO157.out).2.1); rintro e w' ⟨rfl, ⟨nd, rfl⟩⟩; (try exact zd)))
                                      repeat (go_quiet (first | (go_at_call 10; (with_reducible refine (laws_likeInts.calls kj96 _ _ t151 _ _ t155 true _ ?side1 ?side2 ?side3 ?side4 A178.out).mono ?_); (case side1 => exact zC (Kd.R_reads' HO153.out).2.2); (case side2 => exact (Kd.R_reads' HO153.out).2.1); (case side3 => exact zC (Kd.R_reads' HO157.out).2.2); (case side4 => exact (Kd.R_reads' HO157.out).2.1); rintro e w' ⟨rfl, ⟨nd, rfl⟩⟩; (try exact zd))); try go_wp2_with (first | (go_at_call 10; (with_reducible refine (laws_likeInts.calls kj96 _ _ t151 _ _ t155 true _ ?side1 ?side2 ?side3 ?side4 A178.out).mono ?_); (case side1 => exact zC (Kd.R_reads' HO153.out).2.2); (case side2 => exact (Kd.R_reads' HO153.out).2.1); (case side3 => exact zC (Kd.R_reads' HO157.out).2.2); (case side4 => exact (Kd.R_reads' HO157.out).2.1); rintro e w' ⟨rfl, ⟨nd, rfl⟩⟩; (try exact zd))))
                                      go_meet
                                      case rel => exact ⟨_, (true), zF, H', ⟨by have := HJ8.out; have := HJ31.out; have := HJ48.out; have := HJ65.out; have := HJ96.out; first | omega | exact Nat.le_refl _⟩, ⟨by refine zR ?_; exact Kd.R_mono HO153.out (fun _ hk => ⟨hk.1.2, ⟨hk.1.1.1.1.1.1.1.2, ⟨hk.1.1.1.1.1.1.2, ⟨hk.1.1.1.1.1.2, ⟨hk.1.1.1.1.2, hk.1.1.1.2⟩⟩⟩⟩⟩)⟩, ⟨by refine zR ?_; exact Kd.R_mono HO161.out (fun _ hk => ⟨hk.1.1.2, ⟨hk.1.1.1.1.1.1.1.2, ⟨hk.1.1.1.1.1.1.2, ⟨hk.1.1.1.1.1.2, ⟨hk.1.1.1.1.2, hk.1.1.1.2⟩⟩⟩⟩⟩)⟩, ⟨by refine zR ?_; exact Kd.R_mono HO_106000.out (fun _ hk => ⟨hk.1.1.1.2, ⟨hk.1.2, ⟨hk.1.1.1.1.1.1, ⟨hk.1.1.1.1.1.2.1, ⟨hk.1.1.1.1.1.2.2, hk.1.1.1.1.2⟩⟩⟩⟩⟩)⟩, ⟨by refine zR ?_; exact Kd.R_mono HO_129000.out (fun _ hk => ⟨hk.1.1.1.2, ⟨hk.1.2, ⟨hk.1.1.1.1.1.1, ⟨hk.1.1.1.1.1.2.1, ⟨hk.1.1.1.1.1.2.2, hk.1.1.1.1.2⟩⟩⟩⟩⟩)⟩, ⟨by refine zR ?_; exact Kd.R_mono HO_134000.out (fun _ hk => ⟨hk.1.1.1.2, ⟨hk.1.2, ⟨hk.1.1.1.1.1.1, ⟨hk.1.1.1.1.1.2.1, ⟨hk.1.1.1.1.1.2.2, hk.1.1.1.1.2⟩⟩⟩⟩⟩)⟩, ⟨by refine zR ?_; exact Kd.R_mono HO_139000.out (fun _ hk => ⟨hk.1.1.1.2, ⟨hk.1.2, ⟨hk.1.1.1.1.1.1, ⟨hk.1.1.1.1.1.2.1, ⟨hk.1.1.1.1.1.2.2, hk.1.1.1.1.2⟩⟩⟩⟩⟩)⟩, ⟨by refine zR ?_; exact Kd.R_mono HO149.out (fun _ hk => ⟨hk.1.1.1.2, ⟨hk.1.2, ⟨hk.1.1.1.1.1.1.1.2, ⟨hk.1.1.1.1.1.1.2, ⟨hk.1.1.1.1.1.2, hk.1.1.1.1.2⟩⟩⟩⟩⟩)⟩, ⟨zG BK105.out⟩, ⟨zG BK128.out⟩, ⟨zG BK133.out⟩, ⟨zG BK138.out⟩, ⟨zG BK150.out⟩, ⟨zB⟩⟩
                                  · replace c179 := Bool.eq_false_iff.mpr c179
                                    subst c179
                                    have H1 : (laws_FnHarmonic.j7 kj96 t151 t154 t159 t163 true t147) = some r := by rw [if_neg (show ¬ (false = true) by decide)] at H; exact H
                                    clear H
                                    have H := H1
                                    clear H1
                                    have H' := Aside0.mk H
                                    clear H
                                    obtain ⟨Ao203, co203, eo203⟩ := Kd.R_slice HO153.out
                                    subst eo203
                                    obtain ⟨Ao204, co204, eo204⟩ := Kd.R_slice HO157.out
                                    subst eo204
                                    go_wp2_with (first | (go_at_call 10; (with_reducible refine (laws_likeInts.calls kj96 _ _ t151 _ _ t155 false _ ?side1 ?side2 ?side3 ?side4 A178.out).mono ?_); (case side1 => exact zC (Kd.R_reads' HO153.out).2.2); (case side2 => exact (Kd.R_reads' HO153.out).2.1); (case side3 => exact zC (Kd.R_reads' HO157.out).2.2); (case side4 => exact (Kd.R_reads' HO157.out).2.1); rintro e w' ⟨rfl, ⟨nd, rfl⟩⟩; (try exact zd)))
                                    repeat (go_quiet (first | (go_at_call 10; (with_reducible refine (laws_likeInts.calls kj96 _ _ t151 _ _ t155 false _ ?side1 ?side2 ?side3 ?side4 A178.out).mono ?_); (case side1 => exact zC (Kd.R_reads' HO153.out).2.2); (case side2 => exact (Kd.R_reads' HO153.out).2.1); (case side3 => exact zC (Kd.R_reads' HO157.out).2.2); (case side4 => exact (Kd.R_reads' HO157.out).2.1); rintro e w' ⟨rfl, ⟨nd, rfl⟩⟩; (try exact zd))); try go_wp2_with (first | (go_at_call 10; (with_reducible refine (laws_likeInts.calls kj96 _ _ t151 _ _ t155 false _ ?side1 ?side2 ?side3 ?side4 A178.out).mono ?_); (case side1 => exact zC (Kd.R_reads' HO153.out).2.2); (case side2 => exact (Kd.R_reads' HO153.out).2.1); (case side3 => exact zC (Kd.R_reads' HO157.out).2.2); (case side4 => exact (Kd.R_reads' HO157.out).2.1); rintro e w' ⟨rfl, ⟨nd, rfl⟩⟩; (try exact zd))))
                                    go_meet
                                    case rel => exact ⟨_, (true), zF, H', ⟨by have := HJ8.out; have := HJ31.out; have := HJ48.out; have := HJ65.out; have := HJ96.out; first | omega | exact Nat.le_refl _⟩, ⟨by refine zR ?_; exact Kd.R_mono HO153.out (fun _ hk => ⟨hk.1.2, ⟨hk.1.1.1.1.1.1.1.2, ⟨hk.1.1.1.1.1.1.2, ⟨hk.1.1.1.1.1.2, ⟨hk.1.1.1.1.2, hk.1.1.1.2⟩⟩⟩⟩⟩)⟩, ⟨by refine zR ?_; exact Kd.R_mono HO161.out (fun _ hk => ⟨hk.1.1.2, ⟨hk.1.1.1.1.1.1.1.2, ⟨hk.1.1.1.1.1.1.2, ⟨hk.1.1.1.1.1.2, ⟨hk.1.1.1.1.2, hk.1.1.1.2⟩⟩⟩⟩⟩)⟩, ⟨by refine zR ?_; exact Kd.R_mono HO_106000.out (fun _ hk => ⟨hk.1.1.1.2, ⟨hk.1.2, ⟨hk.1.1.1.1.1.1, ⟨hk.1.1.1.1.1.2.1, ⟨hk.1.1.1.1.1.2.2, hk.1.1.1.1.2⟩⟩⟩⟩⟩)⟩, ⟨by refine zR ?_; exact Kd.R_mono HO_129000.out (fun _ hk => ⟨hk.1.1.1.2, ⟨hk.1.2, ⟨hk.1.1.1.1.1.1, ⟨hk.1.1.1.1.1.2.1, ⟨hk.1.1.1.1.1.2.2, hk.1.1.1.1.2⟩⟩⟩⟩⟩)⟩, ⟨by refine zR ?_; exact Kd.R_mono HO_134000.out (fun _ hk => ⟨hk.1.1.1.2, ⟨hk.1.2, ⟨hk.1.1.1.1.1.1, ⟨hk.1.1.1.1.1.2.1, ⟨hk.1.1.1.1.1.2.2, hk.1.1.1.1.2⟩⟩⟩⟩⟩)⟩, ⟨by refine zR ?_; exact Kd.R_mono HO_139000.out (fun _ hk => ⟨hk.1.1.1.2, ⟨hk.1.2, ⟨hk.1.1.1.1.1.1, ⟨hk.1.1.1.1.1.2.1, ⟨hk.1.1.1.1.1.2.2, hk.1.1.1.1.2⟩⟩⟩⟩⟩)⟩, ⟨by refine zR ?_; exact Kd.R_mono HO149.out (fun _ hk => ⟨hk.1.1.1.2, ⟨hk.1.2, ⟨hk.1.1.1.1.1.1.1.2, ⟨hk.1.1.1.1.1.1.2, ⟨hk.1.1.1.1.1.2, hk.1.1.1.1.2⟩⟩⟩⟩⟩)⟩, ⟨zG BK105.out⟩, ⟨zG BK128.out⟩, ⟨zG BK133.out⟩, ⟨zG BK138.out⟩, ⟨zG BK150.out⟩, ⟨zB⟩⟩
                                · rw [if_neg c177] at H
                                  have c177b0 : (t154 == t158) = false := beq_eq_false_iff_ne.mpr c177
                                  have c177b1 : (t154 != t158) = true := bne_iff_ne.mpr c177
                                  (first | rw [c177b0] | (simp only [i64_w, i32_w]; rw [c177b0]) | skip)
                                  have H' := Aside0.mk H
                                  clear H
                                  go_wp2
                                  repeat (go_quiet (fail); try go_wp2)
                                  go_meet
                                  case rel => exact ⟨_, (true), zF, H', ⟨by have := HJ8.out; have := HJ31.out; have := HJ48.out; have := HJ65.out; have := HJ96.out; first | omega | exact Nat.le_refl _⟩, ⟨by refine zR ?_; exact Kd.R_mono HO153.out (fun _ hk => ⟨hk.1.2, ⟨hk.1.1.1.1.1.1.1.2, ⟨hk.1.1.1.1.1.1.2, ⟨hk.1.1.1.1.1.2, ⟨hk.1.1.1.1.2, hk.1.1.1.2⟩⟩⟩⟩⟩)⟩, ⟨by refine zR ?_; exact Kd.R_mono HO161.out (fun _ hk => ⟨hk.1.1.2, ⟨hk.1.1.1.1.1.1.1.2, ⟨hk.1.1.1.1.1.1.2, ⟨hk.1.1.1.1.1.2, ⟨hk.1.1.1.1.2, hk.1.1.1.2⟩⟩⟩⟩⟩)⟩, ⟨by refine zR ?_; exact Kd.R_mono HO_106000.out (fun _ hk => ⟨hk.1.1.1.2, ⟨hk.1.2, ⟨hk.1.1.1.1.1.1, ⟨hk.1.1.1.1.1.2.1, ⟨hk.1.1.1.1.1.2.2, hk.1.1.1.1.2⟩⟩⟩⟩⟩)⟩, ⟨by refine zR ?_; exact Kd.R_mono HO_129000.out (fun _ hk => ⟨hk.1.1.1.2, ⟨hk.1.2, ⟨hk.1.1.1.1.1.1, ⟨hk.1.1.1.1.1.2.1, ⟨hk.1.1.1.1.1.2.2, hk.1.1.1.1.2⟩⟩⟩⟩⟩)⟩, ⟨by refine zR ?_; exact Kd.R_mono HO_134000.out (fun _ hk => ⟨hk.1.1.1.2, ⟨hk.1.2, ⟨hk.1.1.1.1.1.1, ⟨hk.1.1.1.1.1.2.1, ⟨hk.1.1.1.1.1.2.2, hk.1.1.1.1.2⟩⟩⟩⟩⟩)⟩, ⟨by refine zR ?_; exact Kd.R_mono HO_139000.out (fun _ hk => ⟨hk.1.1.1.2, ⟨hk.1.2, ⟨hk.1.1.1.1.1.1, ⟨hk.1.1.1.1.1.2.1, ⟨hk.1.1.1.1.1.2.2, hk.1.1.1.1.2⟩⟩⟩⟩⟩)⟩, ⟨by refine zR ?_; exact Kd.R_mono HO149.out (fun _ hk => ⟨hk.1.1.1.2, ⟨hk.1.2, ⟨hk.1.1.1.1.1.1.1.2, ⟨hk.1.1.1.1.1.1.2, ⟨hk.1.1.1.1.1.2, hk.1.1.1.1.2⟩⟩⟩⟩⟩)⟩, ⟨zG BK105.out⟩, ⟨zG BK128.out⟩, ⟨zG BK133.out⟩, ⟨zG BK138.out⟩, ⟨zG BK150.out⟩, ⟨zB⟩⟩
                             case rest =>
                               as_aux_lemma =>
                                clear HC161
                                try clear c3
                                try clear c31
                                try clear c96
                                try clear hcz13_0
                                try clear hcz15_0
                                try clear hcz169_0
                                try clear hcz171_0
                                try clear hcz173_0
                                try clear hcz175_0
                                try clear hcz17_0
                                try clear hcz19_0
                                try clear hcz71_0
                                try clear hcz77_0
                                try clear hcz78_0
                                try clear hcz85_0
                                try clear hfz13_0
                                try clear hfz15_0
                                try clear hfz169_0
                                try clear hfz171_0
                                try clear hfz173_0
                                try clear hfz175_0
                                try clear hfz17_0
                                try clear hfz19_0
                                try clear hfz71_0
                                try clear hfz77_0
                                try clear hfz78_0
                                try clear hfz85_0
                                obtain ⟨kq, x271_160, rfl, HA, HJ160, HO_27, HO_31, HO_106000, HO_129000, HO_134000, HO_139000, HO_151000, BK105, BK128, BK133, BK138, BK150, HB⟩ := hcut
                                cases kq with
                                | zero => exact absurd HA.out (by simp [laws_FnHarmonic.j7])
                                | succ kj160 =>
                                  have H := HA.out
                                  clear HA
                                  simp only [laws_FnHarmonic.j7] at H
                                  by_cases c205 : x271_160 = true
                                  · subst c205
                                    have H1 : (some false) = some r := by rw [if_pos rfl] at H; exact H
                                    clear H
                                    have H := H1
                                    clear H1
                                    obtain rfl := Option.some.inj H
                                    go_wp2
                                    repeat (go_quiet (fail); try go_wp2)
                                    go_ret
                                    exact ⟨zE, zB⟩
                                  · replace c205 := Bool.eq_false_iff.mpr c205
                                    subst c205
                                    have H1 : (if t163 = 0 then ((impl_DoServe.f kj160 t147 t159).bind fun bt171 => (if bt171.2 = 0 then (if bt171.1 = true then (laws_FnHarmonic.j8 kj160 t151 t154 t147) else (some false)) else (some false))) else (laws_FnHarmonic.j8 kj160 t151 t154 t147)) = some r := by rw [if_neg (show ¬ (false = true) by decide)] at H; exact H
                                    clear H
                                    have H := H1
                                    clear H1
                                    have HC206 := Aside0.mk H
                                    clear H
                                    go_upto_if 273 with (fail)
                                    repeat (go_quiet (fail); go_upto_if 273 with (fail))
                                    go_cut [] (fun wc => ∃ (kq : Nat), Aside0 (laws_FnHarmonic.j8 kq t151 t154 t147 = some r) ∧ Aside0 (kq ≤ kj160) ∧ Aside0 (Kd.R (Kd.int .i64) 2 wc w.heap.size (fun k_ => some k_ ≠ ((.slice Ao12 t102.length co12) : Value).ownBlock ∧ some k_ ≠ ((.slice Ao69 t124.length co69) : Value).ownBlock ∧ some k_ ≠ ((.slice Ao74 t129.length co74) : Value).ownBlock ∧ some k_ ≠ ((.slice Ao81 t134.length co81) : Value).ownBlock ∧ some k_ ≠ ((.slice Ao164 t147.length co164) : Value).ownBlock) v152 t151) ∧ Aside0 (Kd.R (Kd.int .i64) 2 wc w.heap.size (fun k_ => some k_ ≠ (v152 : Value).ownBlock ∧ some k_ ≠ ((.slice Ao69 t124.length co69) : Value).ownBlock ∧ some k_ ≠ ((.slice Ao74 t129.length co74) : Value).ownBlock ∧ some k_ ≠ ((.slice Ao81 t134.length co81) : Value).ownBlock ∧ some k_ ≠ ((.slice Ao164 t147.length co164) : Value).ownBlock) (.slice Ao12 t102.length co12) t102) ∧ Aside0 (Kd.R (Kd.int .i64) 2 wc w.heap.size (fun k_ => some k_ ≠ (v152 : Value).ownBlock ∧ some k_ ≠ ((.slice Ao12 t102.length co12) : Value).ownBlock ∧ some k_ ≠ ((.slice Ao74 t129.length co74) : Value).ownBlock ∧ some k_ ≠ ((.slice Ao81 t134.length co81) : Value).ownBlock ∧ some k_ ≠ ((.slice Ao164 t147.length co164) : Value).ownBlock) (.slice Ao69 t124.length co69) t124) ∧ Aside0 (Kd.R (Kd.int .i64) 2 wc w.heap.size (fun k_ => some k_ ≠ (v152 : Value).ownBlock ∧ some k_ ≠ ((.slice Ao12 t102.length co12) : Value).ownBlock ∧ some k_ ≠ ((.slice Ao69 t124.length co69) : Value).ownBlock ∧ some k_ ≠ ((.slice Ao81 t134.length co81) : Value).ownBlock ∧ some k_ ≠ ((.slice Ao164 t147.length co164) : Value).ownBlock) (.slice Ao74 t129.length co74) t129) ∧ Aside0 (Kd.R (Kd.int .i64) 2 wc w.heap.size (fun k_ => some k_ ≠ (v152 : Value).ownBlock ∧ some k_ ≠ ((.slice Ao12 t102.length co12) : Value).ownBlock ∧ some k_ ≠ ((.slice Ao69 t124.length co69) : Value).ownBlock ∧ some k_ ≠ ((.slice Ao74 t129.length co74) : Value).ownBlock ∧ some k_ ≠ ((.slice Ao164 t147.length co164) : Value).ownBlock) (.slice Ao81 t134.length co81) t134) ∧ Aside0 (Kd.R (Kd.int .i64) 2 wc w.heap.size (fun k_ => some k_ ≠ (v152 : Value).ownBlock ∧ some k_ ≠ ((.slice Ao12 t102.length co12) : Value).ownBlock ∧ some k_ ≠ ((.slice Ao69 t124.length co69) : Value).ownBlock ∧ some k_ ≠ ((.slice Ao74 t129.length co74) : Value).ownBlock ∧ some k_ ≠ ((.slice Ao81 t134.length co81) : Value).ownBlock) (.slice Ao164 t147.length co164) t147) ∧ Aside0 (wc.heap[gb105]? = some (.cells #[(.slice Ao12 t102.length co12)] 26 (0, 0))) ∧ Aside0 (wc.heap[gb128]? = some (.cells #[(.slice Ao69 t124.length co69)] 26 (0, 0))) ∧ Aside0 (wc.heap[gb133]? = some (.cells #[(.slice Ao74 t129.length co74)] 26 (0, 0))) ∧ Aside0 (wc.heap[gb138]? = some (.cells #[(.slice Ao81 t134.length co81)] 26 (0, 0))) ∧ Aside0 (wc.heap[gb150]? = some (.cells #[(.slice Ao164 t147.length co164)] 26 (0, 0))) ∧ Aside0 (Below w.heap.size w wc))
                                    case first =>
                                      as_aux_lemma =>
                                       have H := HC206.out
                                       clear HC206
                                       by_cases c207 : t163 = 0
                                       · rw [if_pos c207] at H
                                         have c207b0 : (t163 == 0) = true := beq_iff_eq.mpr c207
                                         have c207b1 : (t163 != 0) = false := bne_eq_false_iff_eq.mpr c207
                                         clear c207
                                         (first | rw [c207b0] | (simp only [i64_w, i32_w]; rw [c207b0]) | skip)
                                         replace H := Option.bind_eq_some_iff.mp H
                                         obtain ⟨⟨t171, t172⟩, A2080, H⟩ := H
                                         replace H : (if t172 = 0 then (if t171 = true then (laws_FnHarmonic.j8 kj160 t151 t154 t147) else (some false)) else (some false)) = some r := H
                                         have A208 := Aside0.mk A2080
                                         clear A2080
                                         by_cases c209 : t172 = 0
                                         · rw [if_pos c209] at H
                                           have c209b0 : (t172 == 0) = true := beq_iff_eq.mpr c209
                                           have c209b1 : (t172 != 0) = false := bne_eq_false_iff_eq.mpr c209
                                           clear c209
                                           by_cases c210 : t171 = true
                                           · subst c210
                                             have H1 : (laws_FnHarmonic.j8 kj160 t151 t154 t147) = some r := by rw [if_pos rfl] at H; exact H
                                             clear H
                                             have H := H1
                                             clear H1
                                             have H' := Aside0.mk H
                                             clear H
                                             have hnb211 := NB150_105.out
                                             have hnc211 := NB105_150.out
                                             have hnb212 := NB150_128.out
                                             have hnc212 := NB128_150.out
                                             have hnb213 := NB150_133.out
                                             have hnc213 := NB133_150.out
                                             have hnb214 := NB150_138.out
                                             have hnc214 := NB138_150.out
                                             have hcz215_0 := zc BK150.out
                                             have hfz215_0 := blk_frozen BK150.out 0
                                             obtain ⟨Ao216, co216, eo216⟩ := Kd.R_slice HO_31.out
                                             subst eo216
                                             go_wp2_with (first | (go_at_call 12; (with_reducible refine (impl_DoServe.calls kj160 _ _ t147 _ _ t159 true t172 _ ?side1 ?side2 ?side3 ?side4 A208.out).mono ?_); (case side1 => exact zC (Kd.R_reads' HO_151000.out).2.2); (case side2 => exact (Kd.R_reads' HO_151000.out).2.1); (case side3 => exact zC (Kd.R_reads' HO_31.out).2.2); (case side4 => exact (Kd.R_reads' HO_31.out).2.1); rintro e w217 ⟨rfl, hb⟩; have n_ := y13 (Kd.R_below (zR HO_27.out) hb) (Kd.R_below (zR HO_31.out) hb) (Kd.R_below (zR HO_106000.out) hb) (Kd.R_below (zR HO_129000.out) hb) (Kd.R_below (zR HO_134000.out) hb) (Kd.R_below (zR HO_139000.out) hb) (Kd.R_below (zR HO_151000.out) hb) (zb BK105.out hb) (zb BK128.out hb) (zb BK133.out hb) (zb BK138.out hb) (zb BK150.out hb) (below_step (zB) hb); clear HO_27 HO_31 HO_106000 HO_129000 HO_134000 HO_139000 HO_151000 BK105 BK128 BK133 BK138 BK150 HB; obtain ⟨HO_27, HO_31, HO_106000, HO_129000, HO_134000, HO_139000, HO_151000, BK105, BK128, BK133, BK138, BK150, HB⟩ := n_; (try clear hb); (try clear hb2); (try clear hk); (try clear hi)))
                                             repeat (go_quiet (fail); try go_wp2)
                                             go_meet
                                             case rel => exact ⟨_, H', ⟨by have := HJ8.out; have := HJ31.out; have := HJ48.out; have := HJ65.out; have := HJ96.out; have := HJ160.out; first | omega | exact Nat.le_refl _⟩, ⟨by refine zR ?_; exact Kd.R_mono HO_27.out (fun _ hk => ⟨hk.2.1, ⟨hk.2.2.1, ⟨hk.2.2.2.1, ⟨hk.2.2.2.2.1, hk.2.2.2.2.2⟩⟩⟩⟩)⟩, ⟨by refine zR ?_; exact Kd.R_mono HO_106000.out (fun _ hk => ⟨hk.1, ⟨hk.2.2.1, ⟨hk.2.2.2.1, ⟨hk.2.2.2.2.1, hk.2.2.2.2.2⟩⟩⟩⟩)⟩, ⟨by refine zR ?_; exact Kd.R_mono HO_129000.out (fun _ hk => ⟨hk.1, ⟨hk.2.2.1, ⟨hk.2.2.2.1, ⟨hk.2.2.2.2.1, hk.2.2.2.2.2⟩⟩⟩⟩)⟩, ⟨by refine zR ?_; exact Kd.R_mono HO_134000.out (fun _ hk => ⟨hk.1, ⟨hk.2.2.1, ⟨hk.2.2.2.1, ⟨hk.2.2.2.2.1, hk.2.2.2.2.2⟩⟩⟩⟩)⟩, ⟨by refine zR ?_; exact Kd.R_mono HO_139000.out (fun _ hk => ⟨hk.1, ⟨hk.2.2.1, ⟨hk.2.2.2.1, ⟨hk.2.2.2.2.1, hk.2.2.2.2.2⟩⟩⟩⟩)⟩, ⟨by refine zR ?_; exact Kd.R_mono HO_151000.out (fun _ hk => ⟨hk.1, ⟨hk.2.2.1, ⟨hk.2.2.2.1, ⟨hk.2.2.2.2.1, hk.2.2.2.2.2⟩⟩⟩⟩)⟩, ⟨zG BK105.out⟩, ⟨zG BK128.out⟩, ⟨zG BK133.out⟩, ⟨zG BK138.out⟩, ⟨zG BK150.out⟩, ⟨zB⟩⟩
                                           · replace c210 := Bool.eq_false_iff.mpr c210
                                             subst c210
                                             have H1 : (some false) = some r := by rw [if_neg (show ¬ (false = true) by decide)] at H; exact H
                                             clear H
                                             have H := H1
                                             clear H1
                                             obtain rfl := Option.some.inj H
                                             have hnb218 := NB150_105.out
                                             have hnc218 := NB105_150.out
                                             have hnb219 := NB150_128.out
                                             have hnc219 := NB128_150.out
                                             have hnb220 := NB150_133.out
                                             have hnc220 := NB133_150.out
                                             have hnb221 := NB150_138.out
                                             have hnc221 := NB138_150.out
                                             have hcz222_0 := zc BK150.out
                                             have hfz222_0 := blk_frozen BK150.out 0
                                             obtain ⟨Ao223, co223, eo223⟩ := Kd.R_slice HO_31.out
                                             subst eo223
                                             go_wp2_with (first | (go_at_call 12; (with_reducible refine (impl_DoServe.calls kj160 _ _ t147 _ _ t159 false t172 _ ?side1 ?side2 ?side3 ?side4 A208.out).mono ?_); (case side1 => exact zC (Kd.R_reads' HO_151000.out).2.2); (case side2 => exact (Kd.R_reads' HO_151000.out).2.1); (case side3 => exact zC (Kd.R_reads' HO_31.out).2.2); (case side4 => exact (Kd.R_reads' HO_31.out).2.1); rintro e w224 ⟨rfl, hb⟩; have n_ := y13 (Kd.R_below (zR HO_27.out) hb) (Kd.R_below (zR HO_31.out) hb) (Kd.R_below (zR HO_106000.out) hb) (Kd.R_below (zR HO_129000.out) hb) (Kd.R_below (zR HO_134000.out) hb) (Kd.R_below (zR HO_139000.out) hb) (Kd.R_below (zR HO_151000.out) hb) (zb BK105.out hb) (zb BK128.out hb) (zb BK133.out hb) (zb BK138.out hb) (zb BK150.out hb) (below_step (zB) hb); clear HO_27 HO_31 HO_106000 HO_129000 HO_134000 HO_139000 HO_151000 BK105 BK128 BK133 BK138 BK150 HB; obtain ⟨HO_27, HO_31, HO_106000, HO_129000, HO_134000, HO_139000, HO_151000, BK105, BK128, BK133, BK138, BK150, HB⟩ := n_; (try clear hb); (try clear hb2); (try clear hk); (try clear hi)))
                                             repeat (go_quiet (fail); try go_wp2)
                                             go_ret
                                             exact ⟨zE, zB⟩
                                         · rw [if_neg c209] at H
                                           have c209b0 : (t172 == 0) = false := beq_eq_false_iff_ne.mpr c209
                                           have c209b1 : (t172 != 0) = true := bne_iff_ne.mpr c209
                                           obtain rfl := Option.some.inj H
                                           have hnb225 := NB150_105.out
                                           have hnc225 := NB105_150.out
                                           have hnb226 := NB150_128.out
                                           have hnc226 := NB128_150.out
                                           have hnb227 := NB150_133.out
                                           have hnc227 := NB133_150.out
                                           have hnb228 := NB150_138.out
                                           have hnc228 := NB138_150.out
                                           have hcz229_0 := zc BK150.out
                                           have hfz229_0 := blk_frozen BK150.out 0
                                           obtain ⟨Ao230, co230, eo230⟩ := Kd.R_slice HO_31.out
                                           subst eo230
                                           go_wp2_with (first | (go_at_call 12; (with_reducible refine (impl_DoServe.calls kj160 _ _ t147 _ _ t159 t171 t172 _ ?side1 ?side2 ?side3 ?side4 A208.out).mono ?_); (case side1 => exact zC (Kd.R_reads' HO_151000.out).2.2); (case side2 => exact (Kd.R_reads' HO_151000.out).2.1); (case side3 => exact zC (Kd.R_reads' HO_31.out).2.2); (case side4 => exact (Kd.R_reads' HO_31.out).2.1); rintro e w231 ⟨rfl, hb⟩; have n_ := y13 (Kd.R_below (zR HO_27.out) hb) (Kd.R_below (zR HO_31.out) hb) (Kd.R_below (zR HO_106000.out) hb) (Kd.R_below (zR HO_129000.out) hb) (Kd.R_below (zR HO_134000.out) hb) (Kd.R_below (zR HO_139000.out) hb) (Kd.R_below (zR HO_151000.out) hb) (zb BK105.out hb) (zb BK128.out hb) (zb BK133.out hb) (zb BK138.out hb) (zb BK150.out hb) (below_step (zB) hb); clear HO_27 HO_31 HO_106000 HO_129000 HO_134000 HO_139000 HO_151000 BK105 BK128 BK133 BK138 BK150 HB; obtain ⟨HO_27, HO_31, HO_106000, HO_129000, HO_134000, HO_139000, HO_151000, BK105, BK128, BK133, BK138, BK150, HB⟩ := n_; (try clear hb); (try clear hb2); (try clear hk); (try clear hi)))
                                           repeat (go_quiet (fail); try go_wp2)
                                           go_ret
                                           exact ⟨zE, zB⟩
                                       · rw [if_neg c207] at H
                                         have c207b0 : (t163 == 0) = false := beq_eq_false_iff_ne.mpr c207
                                         have c207b1 : (t163 != 0) = true := bne_iff_ne.mpr c207
                                         (first | rw [c207b0] | (simp only [i64_w, i32_w]; rw [c207b0]) | skip)
                                         have H' := Aside0.mk H
                                         clear H
                                         go_wp2
                                         repeat (go_quiet (fail); try go_wp2)
                                         go_meet
                                         case rel => exact ⟨_, H', ⟨by have := HJ8.out; have := HJ31.out; have := HJ48.out; have := HJ65.out; have := HJ96.out; have := HJ160.out; first | omega | exact Nat.le_refl _⟩, ⟨by refine zR ?_; exact Kd.R_mono HO_27.out (fun _ hk => ⟨hk.2.1, ⟨hk.2.2.1, ⟨hk.2.2.2.1, ⟨hk.2.2.2.2.1, hk.2.2.2.2.2⟩⟩⟩⟩)⟩, ⟨by refine zR ?_; exact Kd.R_mono HO_106000.out (fun _ hk => ⟨hk.1, ⟨hk.2.2.1, ⟨hk.2.2.2.1, ⟨hk.2.2.2.2.1, hk.2.2.2.2.2⟩⟩⟩⟩)⟩, ⟨by refine zR ?_; exact Kd.R_mono HO_129000.out (fun _ hk => ⟨hk.1, ⟨hk.2.2.1, ⟨hk.2.2.2.1, ⟨hk.2.2.2.2.1, hk.2.2.2.2.2⟩⟩⟩⟩)⟩, ⟨by refine zR ?_; exact Kd.R_mono HO_134000.out (fun _ hk => ⟨hk.1, ⟨hk.2.2.1, ⟨hk.2.2.2.1, ⟨hk.2.2.2.2.1, hk.2.2.2.2.2⟩⟩⟩⟩)⟩, ⟨by refine zR ?_; exact Kd.R_mono HO_139000.out (fun _ hk => ⟨hk.1, ⟨hk.2.2.1, ⟨hk.2.2.2.1, ⟨hk.2.2.2.2.1, hk.2.2.2.2.2⟩⟩⟩⟩)⟩, ⟨by refine zR ?_; exact Kd.R_mono HO_151000.out (fun _ hk => ⟨hk.1, ⟨hk.2.2.1, ⟨hk.2.2.2.1, ⟨hk.2.2.2.2.1, hk.2.2.2.2.2⟩⟩⟩⟩)⟩, ⟨zG BK105.out⟩, ⟨zG BK128.out⟩, ⟨zG BK133.out⟩, ⟨zG BK138.out⟩, ⟨zG BK150.out⟩, ⟨zB⟩⟩
                                    case rest =>
                                      as_aux_lemma =>
                                       clear HC206
                                       try clear c3
                                       try clear c31
                                       try clear c96
                                       try clear c205
                                       try clear hcz13_0
                                       try clear hcz15_0
                                       try clear hcz169_0
                                       try clear hcz171_0
                                       try clear hcz173_0
                                       try clear hcz175_0
                                       try clear hcz17_0
                                       try clear hcz19_0
                                       try clear hcz71_0
                                       try clear hcz77_0
                                       try clear hcz78_0
                                       try clear hcz85_0
                                       try clear hfz13_0
                                       try clear hfz15_0
                                       try clear hfz169_0
                                       try clear hfz171_0
                                       try clear hfz173_0
                                       try clear hfz175_0
                                       try clear hfz17_0
                                       try clear hfz19_0
                                       try clear hfz71_0
                                       try clear hfz77_0
                                       try clear hfz78_0
                                       try clear hfz85_0
                                       obtain ⟨kq, HA, HJ205, HO_27, HO_106000, HO_129000, HO_134000, HO_139000, HO_151000, BK105, BK128, BK133, BK138, BK150, HB⟩ := hcut
                                       cases kq with
                                       | zero => exact absurd HA.out (by simp [laws_FnHarmonic.j8])
                                       | succ kj205 =>
                                         have H := HA.out
                                         clear HA
                                         simp only [laws_FnHarmonic.j8] at H
                                         by_cases c232 : t154 = 0
                                         · rw [if_pos c232] at H
                                           have c232b0 : (t154 == 0) = true := beq_iff_eq.mpr c232
                                           have c232b1 : (t154 != 0) = false := bne_eq_false_iff_eq.mpr c232
                                           clear c232
                                           replace H := Option.bind_eq_some_iff.mp H
                                           obtain ⟨⟨t173, t174⟩, A2330, H⟩ := H
                                           replace H : (if t174 = 0 then (if t173 = true then (some true) else (some false)) else (some false)) = some r := H
                                           have A233 := Aside0.mk A2330
                                           clear A2330
                                           by_cases c234 : t174 = 0
                                           · rw [if_pos c234] at H
                                             have c234b0 : (t174 == 0) = true := beq_iff_eq.mpr c234
                                             have c234b1 : (t174 != 0) = false := bne_eq_false_iff_eq.mpr c234
                                             clear c234
                                             by_cases c235 : t173 = true
                                             · subst c235
                                               have H1 : (some true) = some r := by rw [if_pos rfl] at H; exact H
                                               clear H
                                               have H := H1
                                               clear H1
                                               obtain rfl := Option.some.inj H
                                               have hnb236 := NB150_105.out
                                               have hnc236 := NB105_150.out
                                               have hnb237 := NB150_128.out
                                               have hnc237 := NB128_150.out
                                               have hnb238 := NB150_133.out
                                               have hnc238 := NB133_150.out
                                               have hnb239 := NB150_138.out
                                               have hnc239 := NB138_150.out
                                               have hcz240_0 := zc BK150.out
                                               have hfz240_0 := blk_frozen BK150.out 0
                                               obtain ⟨Ao241, co241, eo241⟩ := Kd.R_slice HO_27.out
                                               subst eo241
                                               go_wp2_with (first | (go_at_call 12; (with_reducible refine (impl_DoServe.calls kj205 _ _ t147 _ _ t151 true t174 _ ?side1 ?side2 ?side3 ?side4 A233.out).mono ?_); (case side1 => exact zC (Kd.R_reads' HO_151000.out).2.2); (case side2 => exact (Kd.R_reads' HO_151000.out).2.1); (case side3 => exact zC (Kd.R_reads' HO_27.out).2.2); (case side4 => exact (Kd.R_reads' HO_27.out).2.1); rintro e w242 ⟨rfl, hb⟩; have n_ := y12 (Kd.R_below (zR HO_27.out) hb) (Kd.R_below (zR HO_106000.out) hb) (Kd.R_below (zR HO_129000.out) hb) (Kd.R_below (zR HO_134000.out) hb) (Kd.R_below (zR HO_139000.out) hb) (Kd.R_below (zR HO_151000.out) hb) (zb BK105.out hb) (zb BK128.out hb) (zb BK133.out hb) (zb BK138.out hb) (zb BK150.out hb) (below_step (zB) hb); clear HO_27 HO_106000 HO_129000 HO_134000 HO_139000 HO_151000 BK105 BK128 BK133 BK138 BK150 HB; obtain ⟨HO_27, HO_106000, HO_129000, HO_134000, HO_139000, HO_151000, BK105, BK128, BK133, BK138, BK150, HB⟩ := n_; (try clear hb); (try clear hb2); (try clear hk); (try clear hi)))
                                               repeat (go_quiet (fail); try go_wp2)
                                               go_ret
                                               exact ⟨zE, zB⟩
                                             · replace c235 := Bool.eq_false_iff.mpr c235
                                               subst c235
                                               have H1 : (some false) = some r := by rw [if_neg (show ¬ (false = true) by decide)] at H; exact H
                                               clear H
                                               have H := H1
                                               clear H1
                                               obtain rfl := Option.some.inj H
                                               have hnb243 := NB150_105.out
                                               have hnc243 := NB105_150.out
                                               have hnb244 := NB150_128.out
                                               have hnc244 := NB128_150.out
                                               have hnb245 := NB150_133.out
                                               have hnc245 := NB133_150.out
                                               have hnb246 := NB150_138.out
                                               have hnc246 := NB138_150.out
                                               have hcz247_0 := zc BK150.out
                                               have hfz247_0 := blk_frozen BK150.out 0
                                               obtain ⟨Ao248, co248, eo248⟩ := Kd.R_slice HO_27.out
                                               subst eo248
                                               go_wp2_with (first | (go_at_call 12; (with_reducible refine (impl_DoServe.calls kj205 _ _ t147 _ _ t151 false t174 _ ?side1 ?side2 ?side3 ?side4 A233.out).mono ?_); (case side1 => exact zC (Kd.R_reads' HO_151000.out).2.2); (case side2 => exact (Kd.R_reads' HO_151000.out).2.1); (case side3 => exact zC (Kd.R_reads' HO_27.out).2.2); (case side4 => exact (Kd.R_reads' HO_27.out).2.1); rintro e w249 ⟨rfl, hb⟩; have n_ := y12 (Kd.R_below (zR HO_27.out) hb) (Kd.R_below (zR HO_106000.out) hb) (Kd.R_below (zR HO_129000.out) hb) (Kd.R_below (zR HO_134000.out) hb) (Kd.R_below (zR HO_139000.out) hb) (Kd.R_below (zR HO_151000.out) hb) (zb BK105.out hb) (zb BK128.out hb) (zb BK133.out hb) (zb BK138.out hb) (zb BK150.out hb) (below_step (zB) hb); clear HO_27 HO_106000 HO_129000 HO_134000 HO_139000 HO_151000 BK105 BK128 BK133 BK138 BK150 HB; obtain ⟨HO_27, HO_106000, HO_129000, HO_134000, HO_139000, HO_151000, BK105, BK128, BK133, BK138, BK150, HB⟩ := n_; (try clear hb); (try clear hb2); (try clear hk); (try clear hi)))
                                               repeat (go_quiet (fail); try go_wp2)
                                               go_ret
                                               exact ⟨zE, zB⟩
                                           · rw [if_neg c234] at H
                                             have c234b0 : (t174 == 0) = false := beq_eq_false_iff_ne.mpr c234
                                             have c234b1 : (t174 != 0) = true := bne_iff_ne.mpr c234
                                             obtain rfl := Option.some.inj H
                                             have hnb250 := NB150_105.out
                                             have hnc250 := NB105_150.out
                                             have hnb251 := NB150_128.out
                                             have hnc251 := NB128_150.out
                                             have hnb252 := NB150_133.out
                                             have hnc252 := NB133_150.out
                                             have hnb253 := NB150_138.out
                                             have hnc253 := NB138_150.out
                                             have hcz254_0 := zc BK150.out
                                             have hfz254_0 := blk_frozen BK150.out 0
                                             obtain ⟨Ao255, co255, eo255⟩ := Kd.R_slice HO_27.out
                                             subst eo255
                                             go_wp2_with (first | (go_at_call 12; (with_reducible refine (impl_DoServe.calls kj205 _ _ t147 _ _ t151 t173 t174 _ ?side1 ?side2 ?side3 ?side4 A233.out).mono ?_); (case side1 => exact zC (Kd.R_reads' HO_151000.out).2.2); (case side2 => exact (Kd.R_reads' HO_151000.out).2.1); (case side3 => exact zC (Kd.R_reads' HO_27.out).2.2); (case side4 => exact (Kd.R_reads' HO_27.out).2.1); rintro e w256 ⟨rfl, hb⟩; have n_ := y12 (Kd.R_below (zR HO_27.out) hb) (Kd.R_below (zR HO_106000.out) hb) (Kd.R_below (zR HO_129000.out) hb) (Kd.R_below (zR HO_134000.out) hb) (Kd.R_below (zR HO_139000.out) hb) (Kd.R_below (zR HO_151000.out) hb) (zb BK105.out hb) (zb BK128.out hb) (zb BK133.out hb) (zb BK138.out hb) (zb BK150.out hb) (below_step (zB) hb); clear HO_27 HO_106000 HO_129000 HO_134000 HO_139000 HO_151000 BK105 BK128 BK133 BK138 BK150 HB; obtain ⟨HO_27, HO_106000, HO_129000, HO_134000, HO_139000, HO_151000, BK105, BK128, BK133, BK138, BK150, HB⟩ := n_; (try clear hb); (try clear hb2); (try clear hk); (try clear hi)))
                                             repeat (go_quiet (fail); try go_wp2)
                                             go_ret
                                             exact ⟨zE, zB⟩
                                         · rw [if_neg c232] at H
                                           have c232b0 : (t154 == 0) = false := beq_eq_false_iff_ne.mpr c232
                                           have c232b1 : (t154 != 0) = true := bne_iff_ne.mpr c232
                                           obtain rfl := Option.some.inj H
                                           go_wp2
                                           repeat (go_quiet (fail); try go_wp2)
                                           go_ret
                                           exact ⟨zE, zB⟩
end Go.Proofs.Ytgbapmmfhdphmaa.P
end
