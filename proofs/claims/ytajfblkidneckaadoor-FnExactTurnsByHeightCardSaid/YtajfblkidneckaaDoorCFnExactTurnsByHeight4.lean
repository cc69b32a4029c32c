/- The program's TurnsByHeight returns what the reference's returns, for all gardens. -/
import Derived.Test.YtajfblkidneckaaDoorCFnExactTurnsByHeight3
import Derived.Test.YtajfblkidneckaaDoorCards
import Derived.Test.YtajfblkidneckaaDoorRows
import Derived.Test.YtajfblkidneckaaDoorTie
section
namespace Go.Proofs.YtajfblkidneckaaDoor.P
open Go.RowKit Go.Proofs.YtajfblkidneckaaDoorW.PrintWords Go.Proofs.YtajfblkidneckaaDoorW.PrintLast Go.Proofs.YtajfblkidneckaaDoorW.PrintMore
attribute [local go_sem] max2_int min2_int max_two min_two max_three min_three max_four min_four   -- for this text's walks alone
set_option linter.unusedVariables false
set_option linter.unusedSimpArgs false
set_option maxHeartbeats 8000000 in
set_option maxRecDepth 100000 in
theorem laws_FnExactTurnsByHeight.calls (k : Nat) (A0_0 : Option Addr) (c0_0 : Nat) (l0_0 : List Int) (r : Bool) (w : World) (hr0_0 : Kd.C (Kd.int .i64) w A0_0 l0_0.length l0_0) (hc0_0 : l0_0.length ≤ c0_0) (h : laws_FnExactTurnsByHeight.f k l0_0 = some r) (ht : tabW w) :
    Calls Tryd.prog 4 #[.agg #[.slice A0_0 l0_0.length c0_0]] w fun e w' => e = .returned (.bool r) ∧ Below w.heap.size w w' := by
 have HT_ := Aside0.mk ht
 clear ht
 have hu24 := Tryd.underlying24
 have hu28 := Tryd.underlying28
 have HR0_0 := Aside0.mk hr0_0
 have HC0_0 := Aside0.mk hc0_0
 clear hr0_0 hc0_0
 have HB := Aside0.mk (Below.refl w.heap.size w)
 have H : ((laws_szGarden.f l0_0 1048576).bind fun t102 => (if t102 < 0 then (some true) else ((laws_toGarden.f k l0_0).bind fun t103 => ((spec_TurnsByHeight.f k t103).bind fun bt106 => ((laws_toGarden.f k l0_0).bind fun t111 => ((impl_TurnsByHeight.f t111).bind fun bt115 => ((laws_eqInt64S.f k bt115.1 bt106.1).bind fun t120 => (if t120 = true then (if bt115.2.1 = bt106.2.1 then (laws_FnExactTurnsByHeight.j0 k bt106.1 bt106.2.1 bt106.2.2 bt115.1 bt115.2.1 bt115.2.2 (bt115.2.2 != bt106.2.2) l0_0 t111) else (laws_FnExactTurnsByHeight.j0 k bt106.1 bt106.2.1 bt106.2.2 bt115.1 bt115.2.1 bt115.2.2 true l0_0 t111)) else (laws_FnExactTurnsByHeight.j0 k bt106.1 bt106.2.1 bt106.2.2 bt115.1 bt115.2.1 bt115.2.2 true l0_0 t111))))))))) = some r := h
 clear h
 replace H := Option.bind_eq_some_iff.mp H
 obtain ⟨t102, A20, H⟩ := H
 replace H : (if t102 < 0 then (some true) else ((laws_toGarden.f k l0_0).bind fun t103 => ((spec_TurnsByHeight.f k t103).bind fun bt106 => ((laws_toGarden.f k l0_0).bind fun t111 => ((impl_TurnsByHeight.f t111).bind fun bt115 => ((laws_eqInt64S.f k bt115.1 bt106.1).bind fun t120 => (if t120 = true then (if bt115.2.1 = bt106.2.1 then (laws_FnExactTurnsByHeight.j0 k bt106.1 bt106.2.1 bt106.2.2 bt115.1 bt115.2.1 bt115.2.2 (bt115.2.2 != bt106.2.2) l0_0 t111) else (laws_FnExactTurnsByHeight.j0 k bt106.1 bt106.2.1 bt106.2.2 bt115.1 bt115.2.1 bt115.2.2 true l0_0 t111)) else (laws_FnExactTurnsByHeight.j0 k bt106.1 bt106.2.1 bt106.2.2 bt115.1 bt115.2.1 bt115.2.2 true l0_0 t111)))))))) = some r := H
 have A2 := Aside0.mk A20
 clear A20
 by_cases c3 : t102 < 0
 ·
  rw [if_pos c3] at H
  have c3b0 : decide (t102 < 0) = true := decide_eq_true c3
  clear c3
  obtain rfl := Option.some.inj H
  go_enter Tryd.func4, Tryd.ntmps4
  go_wp2_with (first | ((with_reducible refine gate_dst (N := 1) rfl ?_); refine box_event zr (N := 1) zr (cs := #[.slice A0_0 l0_0.length c0_0]) (t := 24) zg ?_; intro gb101 hg w4 hbox hb; have n_ := y4 (below_step (zB) hb) (hbox) ((zS hg : w.heap.size ≤ gb101)) ((zS hg : w.heap.size ≤ gb101)); clear HB; obtain ⟨HB, BK101, GW101, GE101⟩ := n_; clear hb hbox hg; have hcz5_0 := zc BK101.out; have hfz5_0 := blk_frozen BK101.out 0) | ((with_reducible refine gate_callee (f := 5) rfl ?_); refine goesL_ (some 19) rfl rfl Tryd.func5 zk rfl #[.agg #[.slice A0_0 l0_0.length c0_0], .int .i64 1048576] rfl zA ?_; (with_reducible refine (laws_szGarden.calls _ _ l0_0 1048576 t102 _ ?side1 ?side2 A2.out).mono ?_); (case side1 => exact zC (Kd.C_below HR0_0.out HB.out)); (case side2 => exact HC0_0.out); rintro e w6 ⟨rfl, hb⟩; refine ⟨_, rfl, ?_⟩; have n_ := y2 (zb BK101.out hb) (below_step (zB) hb); clear BK101 HB; obtain ⟨BK101, HB⟩ := n_; (try clear hb); (try clear hb2); (try clear hk); (try clear hi)))
  go_ret
  exact ⟨zE, zB⟩
 rw [if_neg c3] at H
 have c3b0 : decide (t102 < 0) = false := decide_eq_false c3
 clear c3
 replace H := Option.bind_eq_some_iff.mp H
 obtain ⟨t103, A70, H⟩ := H
 replace H : ((spec_TurnsByHeight.f k t103).bind fun bt106 => ((laws_toGarden.f k l0_0).bind fun t111 => ((impl_TurnsByHeight.f t111).bind fun bt115 => ((laws_eqInt64S.f k bt115.1 bt106.1).bind fun t120 => (if t120 = true then (if bt115.2.1 = bt106.2.1 then (laws_FnExactTurnsByHeight.j0 k bt106.1 bt106.2.1 bt106.2.2 bt115.1 bt115.2.1 bt115.2.2 (bt115.2.2 != bt106.2.2) l0_0 t111) else (laws_FnExactTurnsByHeight.j0 k bt106.1 bt106.2.1 bt106.2.2 bt115.1 bt115.2.1 bt115.2.2 true l0_0 t111)) else (laws_FnExactTurnsByHeight.j0 k bt106.1 bt106.2.1 bt106.2.2 bt115.1 bt115.2.1 bt115.2.2 true l0_0 t111)))))) = some r := H
 have A7 := Aside0.mk A70
 clear A70
 replace H := Option.bind_eq_some_iff.mp H
 obtain ⟨⟨t106, t109, t110⟩, A80, H⟩ := H
 replace H : ((laws_toGarden.f k l0_0).bind fun t111 => ((impl_TurnsByHeight.f t111).bind fun bt115 => ((laws_eqInt64S.f k bt115.1 t106).bind fun t120 => (if t120 = true then (if bt115.2.1 = t109 then (laws_FnExactTurnsByHeight.j0 k t106 t109 t110 bt115.1 bt115.2.1 bt115.2.2 (bt115.2.2 != t110) l0_0 t111) else (laws_FnExactTurnsByHeight.j0 k t106 t109 t110 bt115.1 bt115.2.1 bt115.2.2 true l0_0 t111)) else (laws_FnExactTurnsByHeight.j0 k t106 t109 t110 bt115.1 bt115.2.1 bt115.2.2 true l0_0 t111))))) = some r := H
 have A8 := Aside0.mk A80
 clear A80
 replace H := Option.bind_eq_some_iff.mp H
 obtain ⟨t111, A90, H⟩ := H
 replace H : ((impl_TurnsByHeight.f t111).bind fun bt115 => ((laws_eqInt64S.f k bt115.1 t106).bind fun t120 => (if t120 = true then (if bt115.2.1 = t109 then (laws_FnExactTurnsByHeight.j0 k t106 t109 t110 bt115.1 bt115.2.1 bt115.2.2 (bt115.2.2 != t110) l0_0 t111) else (laws_FnExactTurnsByHeight.j0 k t106 t109 t110 bt115.1 bt115.2.1 bt115.2.2 true l0_0 t111)) else (laws_FnExactTurnsByHeight.j0 k t106 t109 t110 bt115.1 bt115.2.1 bt115.2.2 true l0_0 t111)))) = some r := H
 have A9 := Aside0.mk A90
 clear A90
 replace H := Option.bind_eq_some_iff.mp H
 obtain ⟨⟨t115, t118, t119⟩, A100, H⟩ := H
 replace H : ((laws_eqInt64S.f k t115 t106).bind fun t120 => (if t120 = true then (if t118 = t109 then (laws_FnExactTurnsByHeight.j0 k t106 t109 t110 t115 t118 t119 (t119 != t110) l0_0 t111) else (laws_FnExactTurnsByHeight.j0 k t106 t109 t110 t115 t118 t119 true l0_0 t111)) else (laws_FnExactTurnsByHeight.j0 k t106 t109 t110 t115 t118 t119 true l0_0 t111))) = some r := H
 have A10 := Aside0.mk A100
 clear A100
 have HC11 := Aside0.mk H
 clear H
 go_enter Tryd.func4, Tryd.ntmps4
 go_upto_region 8 with (first | ((with_reducible refine gate_dst (N := 1) rfl ?_); refine box_event zr (N := 1) zr (cs := #[.slice A0_0 l0_0.length c0_0]) (t := 24) zg ?_; intro gb101 hg w12 hbox hb; have n_ := y4 (below_step (zB) hb) (hbox) ((zS hg : w.heap.size ≤ gb101)) ((zS hg : w.heap.size ≤ gb101)); clear HB; obtain ⟨HB, BK101, GW101, GE101⟩ := n_; clear hb hbox hg; have hcz13_0 := zc BK101.out; have hfz13_0 := blk_frozen BK101.out 0) | ((with_reducible refine gate_callee (f := 5) rfl ?_); refine goesL_ (some 19) rfl rfl Tryd.func5 zk rfl #[.agg #[.slice A0_0 l0_0.length c0_0], .int .i64 1048576] rfl zA ?_; (with_reducible refine (laws_szGarden.calls _ _ l0_0 1048576 t102 _ ?side1 ?side2 A2.out).mono ?_); (case side1 => exact zC (Kd.C_below HR0_0.out HB.out)); (case side2 => exact HC0_0.out); rintro e w14 ⟨rfl, hb⟩; refine ⟨_, rfl, ?_⟩; have n_ := y2 (zb BK101.out hb) (below_step (zB) hb); clear BK101 HB; obtain ⟨BK101, HB⟩ := n_; (try clear hb); (try clear hb2); (try clear hk); (try clear hi); have hcz15_0 := zc BK101.out; have hfz15_0 := blk_frozen BK101.out 0) | ((with_reducible refine gate_callee (f := 7) rfl ?_); refine goesL_ (some 24) rfl rfl Tryd.func7 zk rfl #[.agg #[.slice A0_0 l0_0.length c0_0]] rfl zA ?_; (with_reducible refine (laws_toGarden.calls k _ _ l0_0 t103 _ ?side1 ?side2 A7.out).mono ?_); (case side1 => exact zC (Kd.C_below HR0_0.out HB.out)); (case side2 => exact HC0_0.out); rintro e w16 ⟨v104, rfl, ho0, hb⟩; refine ⟨_, rfl, ?_⟩; have n_ := y3 (Kd.R_lower ho0 (below_size (zB))) (zb BK101.out hb) (below_step (zB) hb); clear BK101 HB; obtain ⟨HO105, BK101, HB⟩ := n_; (try clear hb); (try clear hb2); (try clear hk); (try clear hi); (try clear ho0); obtain ⟨Ao17, co17, eo17⟩ := Kd.R_slice HO105.out; subst eo17) | ((with_reducible refine gate_callee (f := 14) rfl ?_); refine goesL_ (some 25) rfl rfl Tryd.func14 zk rfl #[.agg #[.slice Ao17 t103.length co17]] rfl zA ?_; (with_reducible refine (spec_TurnsByHeight.calls k _ _ t103 t106 t109 t110 _ ?side1 ?side2 A8.out).mono ?_); (case side1 => exact zC (Kd.R_reads' HO105.out).2.2); (case side2 => exact (Kd.R_reads' HO105.out).2.1); rintro e w18 ⟨v107, rfl, ho0, hb⟩; refine ⟨_, rfl, ?_⟩; have n_ := y4 (Kd.R_elder' (zR HO105.out) (Kd.R_base ho0) hb) (Kd.R_lower (Kd.R_new' ho0 (Kd.R_lt (zR HO105.out))) (below_size (zB))) (zb BK101.out hb) (below_step (zB) hb); clear HO105 BK101 HB; obtain ⟨HO105, HO108, BK101, HB⟩ := n_; (try clear hb); (try clear hb2); (try clear hk); (try clear hi); (try clear ho0); have hcz19_0 := zc BK101.out; have hfz19_0 := blk_frozen BK101.out 0) | ((with_reducible refine gate_callee (f := 7) rfl ?_); refine goesL_ (some 30) rfl rfl Tryd.func7 zk rfl #[.agg #[.slice A0_0 l0_0.length c0_0]] rfl zA ?_; (with_reducible refine (laws_toGarden.calls k _ _ l0_0 t111 _ ?side1 ?side2 A9.out).mono ?_); (case side1 => exact zC (Kd.C_below HR0_0.out HB.out)); (case side2 => exact HC0_0.out); rintro e w20 ⟨v112, rfl, ho0, hb⟩; refine ⟨_, rfl, ?_⟩; have n_ := y5 (Kd.R_elder' (zR HO105.out) (Kd.R_base ho0) hb) (Kd.R_elder' (zR HO108.out) (Kd.R_base ho0) hb) (Kd.R_lower (Kd.R_new' (Kd.R_new' ho0 (Kd.R_lt (zR HO105.out))) (Kd.R_lt (zR HO108.out))) (below_size (zB))) (zb BK101.out hb) (below_step (zB) hb); clear HO105 HO108 BK101 HB; obtain ⟨HO105, HO108, HO113, BK101, HB⟩ := n_; (try clear hb); (try clear hb2); (try clear hk); (try clear hi); (try clear ho0)) | ((with_reducible refine gate_dst (N := 7) rfl ?_); refine box_event zr (N := 7) zr (cs := #[.slice none 0 0]) (t := 28) zg ?_; intro gb114 hg w21 hbox hb; have n_ := y10 (Kd.R_below (zR HO105.out) hb) (Kd.R_below (zR HO108.out) hb) (Kd.R_below (zR HO113.out) hb) (zb BK101.out hb) (below_step (zB) hb) (hbox) ((zS hg : w.heap.size ≤ gb114)) ((zS hg : w.heap.size ≤ gb114)) ((zL hg BK101.out : gb101 ≠ gb114)) ((zM hg BK101.out : gb114 ≠ gb101)); clear HO105 HO108 HO113 BK101 HB; obtain ⟨HO105, HO108, HO113, BK101, HB, BK114, GW114, GE114, NB101_114, NB114_101⟩ := n_; clear hb hbox hg; obtain ⟨Ao22, co22, eo22⟩ := Kd.R_slice HO113.out; subst eo22; have hnb23 := NB114_101.out; have hnc23 := NB101_114.out; have hcz24_0 := zc BK114.out; have hfz24_0 := blk_frozen BK114.out 0) | ((with_reducible refine gate_callee (f := 15) rfl ?_); refine goesL_ (some 33) rfl rfl Tryd.func15 zk rfl #[.agg #[.slice Ao22 t111.length co22]] rfl zA ?_; (with_reducible refine (impl_TurnsByHeight.calls _ _ t111 t115 t118 t119 _ ?side1 ?side2 A10.out).mono ?_); (case side1 => refine (Kd.R_reads' (e := 2) (base := w.heap.size) (ok := fun k_ => ((True ∧ some k_ ≠ (.slice Ao17 t103.length co17 : Value).ownBlock) ∧ some k_ ≠ (v107 : Value).ownBlock)) (n := t111.length) (c := co22) ?_).2.2; exact (by refine zR ?_; exact (Kd.R_mono (Kd.R_far (p := ⟨gb114, 0, none⟩) (Kd.R_types HO113.out BK114.out (by decide)) (fun _ hk => hk.2) (.slice Ao22 t111.length co22)) (fun _ h_ => h_.1)))); (case side2 => exact (Kd.R_reads' HO113.out).2.1); rintro e w25 ⟨v116, rfl, ho0, hb⟩; refine ⟨_, rfl, ?_⟩; have n_ := y7 (Kd.R_elder' (by refine zR ?_; exact (Kd.R_mono (Kd.R_far (p := ⟨gb114, 0, none⟩) (Kd.R_types HO105.out BK114.out (by decide)) (fun _ hk => hk.2) (.slice Ao22 t111.length co22)) (fun _ h_ => h_.1))) (Kd.R_base ho0) hb) (Kd.R_elder' (by refine zR ?_; exact (Kd.R_mono (Kd.R_far (p := ⟨gb114, 0, none⟩) (Kd.R_types HO108.out BK114.out (by decide)) (fun _ hk => hk.2) (.slice Ao22 t111.length co22)) (fun _ h_ => h_.1))) (Kd.R_base ho0) hb) (Kd.R_elder' (by refine zR ?_; exact (Kd.R_mono (Kd.R_far (p := ⟨gb114, 0, none⟩) (Kd.R_types HO113.out BK114.out (by decide)) (fun _ hk => hk.2) (.slice Ao22 t111.length co22)) (fun _ h_ => h_.1))) (Kd.R_base ho0) hb) (Kd.R_lower (Kd.R_new' (Kd.R_new' (Kd.R_new' ho0 (Kd.R_lt (by refine zR ?_; exact (Kd.R_mono (Kd.R_far (p := ⟨gb114, 0, none⟩) (Kd.R_types HO105.out BK114.out (by decide)) (fun _ hk => hk.2) (.slice Ao22 t111.length co22)) (fun _ h_ => h_.1))))) (Kd.R_lt (by refine zR ?_; exact (Kd.R_mono (Kd.R_far (p := ⟨gb114, 0, none⟩) (Kd.R_types HO108.out BK114.out (by decide)) (fun _ hk => hk.2) (.slice Ao22 t111.length co22)) (fun _ h_ => h_.1))))) (Kd.R_lt (by refine zR ?_; exact (Kd.R_mono (Kd.R_far (p := ⟨gb114, 0, none⟩) (Kd.R_types HO113.out BK114.out (by decide)) (fun _ hk => hk.2) (.slice Ao22 t111.length co22)) (fun _ h_ => h_.1))))) (below_size (zB))) (blk_below (g := gb101) (o := .cells #[.slice A0_0 l0_0.length c0_0] 24 (0, 0)) (by refine zG ?_; refine blk_far ?_ NB101_114.out _; refine zG ?_; exact BK101.out) hb) (blk_below (g := gb114) (o := .cells #[.slice Ao22 t111.length co22] 28 (0, 0)) (by refine zG ?_; refine blk_put (cs := #[.slice none 0 0]) ?_ 0 _ rfl; refine zG ?_; exact BK114.out) hb) (below_step (zB) hb); clear HO105 HO108 HO113 BK101 BK114 HB; obtain ⟨HO105, HO108, HO113, HO117, BK101, BK114, HB⟩ := n_; (try clear hb); (try clear hb2); (try clear hk); (try clear hi); (try clear ho0)))
 (try simp only [Act.put, List.setIfInBounds_toArray, List.set_cons_zero, List.set_cons_succ])
 go_cut [50] (fun v50 wc => ∃ (kq : Nat) (x50_10 : Bool), v50 = .bool x50_10 ∧ Aside0 (laws_FnExactTurnsByHeight.j0 kq t106 t109 t110 t115 t118 t119 x50_10 l0_0 t111 = some r) ∧ Aside0 (kq ≤ k) ∧ Aside0 (Kd.R (Kd.int .i64) 2 wc w.heap.size (fun k_ => some k_ ≠ (v116 : Value).ownBlock ∧ some k_ ≠ ((.slice Ao22 t111.length co22) : Value).ownBlock) v107 t106) ∧ Aside0 (Kd.R (Kd.int .i64) 2 wc w.heap.size (fun k_ => some k_ ≠ (v107 : Value).ownBlock ∧ some k_ ≠ ((.slice Ao22 t111.length co22) : Value).ownBlock) v116 t115) ∧ Aside0 (Kd.R (Kd.int .i64) 2 wc w.heap.size (fun k_ => some k_ ≠ (v107 : Value).ownBlock ∧ some k_ ≠ (v116 : Value).ownBlock) (.slice Ao22 t111.length co22) t111) ∧ Aside0 (wc.heap[gb101]? = some (.cells #[(.slice A0_0 l0_0.length c0_0)] 24 (0, 0))) ∧ Aside0 (wc.heap[gb114]? = some (.cells #[(.slice Ao22 t111.length co22)] 28 (0, 0))) ∧ Aside0 (Below w.heap.size w wc))
 case first =>
  have H := HC11.out
  clear HC11
  replace H := Option.bind_eq_some_iff.mp H
  obtain ⟨t120, A260, H⟩ := H
  replace H : (if t120 = true then (if t118 = t109 then (laws_FnExactTurnsByHeight.j0 k t106 t109 t110 t115 t118 t119 (t119 != t110) l0_0 t111) else (laws_FnExactTurnsByHeight.j0 k t106 t109 t110 t115 t118 t119 true l0_0 t111)) else (laws_FnExactTurnsByHeight.j0 k t106 t109 t110 t115 t118 t119 true l0_0 t111)) = some r := H
  have A26 := Aside0.mk A260
  clear A260
  by_cases c27 : t120 = true
  ·
   subst c27
   have H1 : (if t118 = t109 then (laws_FnExactTurnsByHeight.j0 k t106 t109 t110 t115 t118 t119 (t119 != t110) l0_0 t111) else (laws_FnExactTurnsByHeight.j0 k t106 t109 t110 t115 t118 t119 true l0_0 t111)) = some r := by rw [if_pos rfl] at H; exact H
   clear H
   have H := H1
   clear H1
   by_cases c28 : t118 = t109
   ·
    rw [if_pos c28] at H
    have c28b0 : (t118 == t109) = true := beq_iff_eq.mpr c28
    have c28b1 : (t118 != t109) = false := bne_eq_false_iff_eq.mpr c28
    clear c28
    (first | rw [c28b0] | (simp only [i64_w, i32_w]; rw [c28b0]) | skip)
    have H' := Aside0.mk H
    clear H
    obtain ⟨Ao29, co29, eo29⟩ := Kd.R_slice HO117.out
    subst eo29
    obtain ⟨Ao30, co30, eo30⟩ := Kd.R_slice HO108.out
    subst eo30
    go_wp2_with (first | ((with_reducible refine gate_callee (f := 9) rfl ?_); refine goesL_ (some 39) rfl rfl Tryd.func9 zk rfl #[.slice Ao29 t115.length co29, .slice Ao30 t106.length co30] rfl zA ?_; (with_reducible refine (laws_eqInt64S.calls k _ _ t115 _ _ t106 true _ ?side1 ?side2 ?side3 ?side4 A26.out).mono ?_); (case side1 => exact zC (Kd.R_reads' HO117.out).2.2); (case side2 => exact (Kd.R_reads' HO117.out).2.1); (case side3 => exact zC (Kd.R_reads' HO108.out).2.2); (case side4 => exact (Kd.R_reads' HO108.out).2.1); rintro e w' ⟨rfl, ⟨nd, rfl⟩⟩; refine ⟨_, rfl, ?_⟩))
    go_meet
    case rel => exact ⟨_, ((t119 != t110)), zF, H', ⟨by first | omega | exact Nat.le_refl _⟩, ⟨by refine zR ?_; exact Kd.R_mono HO108.out (fun _ hk => ⟨hk.2, hk.1.2⟩)⟩, ⟨by refine zR ?_; exact Kd.R_mono HO117.out (fun _ hk => ⟨hk.1.2, hk.2⟩)⟩, ⟨by refine zR ?_; exact Kd.R_mono HO113.out (fun _ hk => ⟨hk.1.2, hk.2⟩)⟩, ⟨zG BK101.out⟩, ⟨zG BK114.out⟩, ⟨zB⟩⟩
   rw [if_neg c28] at H
   have c28b0 : (t118 == t109) = false := beq_eq_false_iff_ne.mpr c28
   have c28b1 : (t118 != t109) = true := bne_iff_ne.mpr c28
   (first | rw [c28b0] | (simp only [i64_w, i32_w]; rw [c28b0]) | skip)
   have H' := Aside0.mk H
   clear H
   obtain ⟨Ao31, co31, eo31⟩ := Kd.R_slice HO117.out
   subst eo31
   obtain ⟨Ao32, co32, eo32⟩ := Kd.R_slice HO108.out
   subst eo32
   go_wp2_with (first | ((with_reducible refine gate_callee (f := 9) rfl ?_); refine goesL_ (some 39) rfl rfl Tryd.func9 zk rfl #[.slice Ao31 t115.length co31, .slice Ao32 t106.length co32] rfl zA ?_; (with_reducible refine (laws_eqInt64S.calls k _ _ t115 _ _ t106 true _ ?side1 ?side2 ?side3 ?side4 A26.out).mono ?_); (case side1 => exact zC (Kd.R_reads' HO117.out).2.2); (case side2 => exact (Kd.R_reads' HO117.out).2.1); (case side3 => exact zC (Kd.R_reads' HO108.out).2.2); (case side4 => exact (Kd.R_reads' HO108.out).2.1); rintro e w' ⟨rfl, ⟨nd, rfl⟩⟩; refine ⟨_, rfl, ?_⟩))
   go_meet
   case rel => exact ⟨_, (true), zF, H', ⟨by first | omega | exact Nat.le_refl _⟩, ⟨by refine zR ?_; exact Kd.R_mono HO108.out (fun _ hk => ⟨hk.2, hk.1.2⟩)⟩, ⟨by refine zR ?_; exact Kd.R_mono HO117.out (fun _ hk => ⟨hk.1.2, hk.2⟩)⟩, ⟨by refine zR ?_; exact Kd.R_mono HO113.out (fun _ hk => ⟨hk.1.2, hk.2⟩)⟩, ⟨zG BK101.out⟩, ⟨zG BK114.out⟩, ⟨zB⟩⟩
  replace c27 := Bool.eq_false_iff.mpr c27
  subst c27
  have H1 : (laws_FnExactTurnsByHeight.j0 k t106 t109 t110 t115 t118 t119 true l0_0 t111) = some r := by rw [if_neg (show ¬ (false = true) by decide)] at H; exact H
  clear H
  have H := H1
  clear H1
  have H' := Aside0.mk H
  clear H
  obtain ⟨Ao33, co33, eo33⟩ := Kd.R_slice HO117.out
  subst eo33
  obtain ⟨Ao34, co34, eo34⟩ := Kd.R_slice HO108.out
  subst eo34
  go_wp2_with (first | ((with_reducible refine gate_callee (f := 9) rfl ?_); refine goesL_ (some 39) rfl rfl Tryd.func9 zk rfl #[.slice Ao33 t115.length co33, .slice Ao34 t106.length co34] rfl zA ?_; (with_reducible refine (laws_eqInt64S.calls k _ _ t115 _ _ t106 false _ ?side1 ?side2 ?side3 ?side4 A26.out).mono ?_); (case side1 => exact zC (Kd.R_reads' HO117.out).2.2); (case side2 => exact (Kd.R_reads' HO117.out).2.1); (case side3 => exact zC (Kd.R_reads' HO108.out).2.2); (case side4 => exact (Kd.R_reads' HO108.out).2.1); rintro e w' ⟨rfl, ⟨nd, rfl⟩⟩; refine ⟨_, rfl, ?_⟩))
  go_meet
  case rel => exact ⟨_, (true), zF, H', ⟨by first | omega | exact Nat.le_refl _⟩, ⟨by refine zR ?_; exact Kd.R_mono HO108.out (fun _ hk => ⟨hk.2, hk.1.2⟩)⟩, ⟨by refine zR ?_; exact Kd.R_mono HO117.out (fun _ hk => ⟨hk.1.2, hk.2⟩)⟩, ⟨by refine zR ?_; exact Kd.R_mono HO113.out (fun _ hk => ⟨hk.1.2, hk.2⟩)⟩, ⟨zG BK101.out⟩, ⟨zG BK114.out⟩, ⟨zB⟩⟩
 clear HC11
 try clear c3
 try clear c3b0
 try clear hcz13_0
 try clear hcz15_0
 try clear hcz19_0
 try clear hcz24_0
 try clear hfz13_0
 try clear hfz15_0
 try clear hfz19_0
 try clear hfz24_0
 obtain ⟨kq, x50_10, rfl, HA, HJ10, HO_4, HO_8, HO_115000, BK101, BK114, HB⟩ := hcut
 cases kq with
 | zero => exact absurd HA.out (by simp [laws_FnExactTurnsByHeight.j0])
 | succ kj10 =>
   have H := HA.out
   clear HA
   simp only [laws_FnExactTurnsByHeight.j0] at H
   by_cases c35 : x50_10 = true
   · subst c35
     have H1 : (some false) = some r := by rw [if_pos rfl] at H; exact H
     clear H
     have H := H1
     clear H1
     obtain rfl := Option.some.inj H
     go_wp2
     go_ret
     exact ⟨zE, zB⟩
   · replace c35 := Bool.eq_false_iff.mpr c35
     subst c35
     have H1 : ((laws_toGarden.f kj10 l0_0).bind fun t121 => ((laws_eqGarden.f kj10 t111 t121).bind fun t124 => (if t124 = true then ((laws_markGarden.f kj10 t111 1).bind fun bt125 => (if bt125.1 < 0 then (laws_FnExactTurnsByHeight.j1 kj10 t106 t109 t110 t115 true l0_0) else ((laws_eqInt64S.f kj10 t115 t106).bind fun t127 => (if t127 = true then (if t118 = t109 then (laws_FnExactTurnsByHeight.j1 kj10 t106 t109 t110 t115 (t119 != t110) l0_0) else (laws_FnExactTurnsByHeight.j1 kj10 t106 t109 t110 t115 true l0_0)) else (laws_FnExactTurnsByHeight.j1 kj10 t106 t109 t110 t115 true l0_0))))) else (some false)))) = some r := by rw [if_neg (show ¬ (false = true) by decide)] at H; exact H
     clear H
     have H := H1
     clear H1
     replace H := Option.bind_eq_some_iff.mp H
     obtain ⟨t121, A360, H⟩ := H
     replace H : ((laws_eqGarden.f kj10 t111 t121).bind fun t124 => (if t124 = true then ((laws_markGarden.f kj10 t111 1).bind fun bt125 => (if bt125.1 < 0 then (laws_FnExactTurnsByHeight.j1 kj10 t106 t109 t110 t115 true l0_0) else ((laws_eqInt64S.f kj10 t115 t106).bind fun t127 => (if t127 = true then (if t118 = t109 then (laws_FnExactTurnsByHeight.j1 kj10 t106 t109 t110 t115 (t119 != t110) l0_0) else (laws_FnExactTurnsByHeight.j1 kj10 t106 t109 t110 t115 true l0_0)) else (laws_FnExactTurnsByHeight.j1 kj10 t106 t109 t110 t115 true l0_0))))) else (some false))) = some r := H
     have A36 := Aside0.mk A360
     clear A360
     replace H := Option.bind_eq_some_iff.mp H
     obtain ⟨t124, A370, H⟩ := H
     replace H : (if t124 = true then ((laws_markGarden.f kj10 t111 1).bind fun bt125 => (if bt125.1 < 0 then (laws_FnExactTurnsByHeight.j1 kj10 t106 t109 t110 t115 true l0_0) else ((laws_eqInt64S.f kj10 t115 t106).bind fun t127 => (if t127 = true then (if t118 = t109 then (laws_FnExactTurnsByHeight.j1 kj10 t106 t109 t110 t115 (t119 != t110) l0_0) else (laws_FnExactTurnsByHeight.j1 kj10 t106 t109 t110 t115 true l0_0)) else (laws_FnExactTurnsByHeight.j1 kj10 t106 t109 t110 t115 true l0_0))))) else (some false)) = some r := H
     have A37 := Aside0.mk A370
     clear A370
     by_cases c38 : t124 = true
     · subst c38
       have H1 : ((laws_markGarden.f kj10 t111 1).bind fun bt125 => (if bt125.1 < 0 then (laws_FnExactTurnsByHeight.j1 kj10 t106 t109 t110 t115 true l0_0) else ((laws_eqInt64S.f kj10 t115 t106).bind fun t127 => (if t127 = true then (if t118 = t109 then (laws_FnExactTurnsByHeight.j1 kj10 t106 t109 t110 t115 (t119 != t110) l0_0) else (laws_FnExactTurnsByHeight.j1 kj10 t106 t109 t110 t115 true l0_0)) else (laws_FnExactTurnsByHeight.j1 kj10 t106 t109 t110 t115 true l0_0))))) = some r := by rw [if_pos rfl] at H; exact H
       clear H
       have H := H1
       clear H1
       replace H := Option.bind_eq_some_iff.mp H
       obtain ⟨⟨t125, t126⟩, A390, H⟩ := H
       replace H : (if t125 < 0 then (laws_FnExactTurnsByHeight.j1 kj10 t106 t109 t110 t115 true l0_0) else ((laws_eqInt64S.f kj10 t115 t106).bind fun t127 => (if t127 = true then (if t118 = t109 then (laws_FnExactTurnsByHeight.j1 kj10 t106 t109 t110 t115 (t119 != t110) l0_0) else (laws_FnExactTurnsByHeight.j1 kj10 t106 t109 t110 t115 true l0_0)) else (laws_FnExactTurnsByHeight.j1 kj10 t106 t109 t110 t115 true l0_0)))) = some r := H
       have A39 := Aside0.mk A390
       clear A390
       have HC40 := Aside0.mk H
       clear H
       try go_wp2
       have n_ := y6 (Kd.R_drew HO_4.out) (Kd.R_drew HO_8.out) (Kd.R_drew HO_115000.out) (blk_drew BK101.out) (blk_drew BK114.out) (below_drew1 HB.out)
       clear HO_4 HO_8 HO_115000 BK101 BK114 HB
       obtain ⟨HO_4, HO_8, HO_115000, BK101, BK114, HB⟩ := n_
       refine start_ (n := 5) (S := fun w' => w'.cell? ⟨gb114, 0, none⟩ = some (.slice Ao22 t111.length co22) ∧ w'.cell? ⟨gb101, 0, none⟩ = some (.slice A0_0 l0_0.length c0_0)) (ds := []) #[false,false,false,false,false] zk rfl rfl ⟨(blk_cell BK114.out 0).trans rfl, (blk_cell BK101.out 0).trans rfl⟩ (fun hHeld => ?_)
       generalize wc.drew = w41 at HO_4 HO_8 HO_115000 BK101 BK114 HB hHeld ⊢
       refine take_ (i := 0) (N := some 51) (v := ?_) (a' := ?_) #[true,false,false,false,false] rfl rfl zk (fun _ _ _ h => h) (Or.inl ⟨by rfl, ?_⟩) hHeld ?_ ?_
       rotate_left
       · rintro w' ⟨s0, s1⟩
         go_simp
         with_reducible rfl
       rotate_left
       · simp only [Act.put, List.setIfInBounds_toArray, List.set_cons_zero, List.set_cons_succ, i64_w, i32_w]
         rfl
       refine take_ (i := 1) (N := some 52) (v := ?_) (a' := ?_) #[true,true,false,false,false] rfl rfl zk (fun _ _ _ h => h) (Or.inl ⟨by rfl, ?_⟩) hHeld ?_ ?_
       rotate_left
       · rintro w' ⟨s0, s1⟩
         go_simp
         with_reducible rfl
       rotate_left
       · simp only [Act.put, List.setIfInBounds_toArray, List.set_cons_zero, List.set_cons_succ, i64_w, i32_w]
         rfl
       refine one_ (i := 2) (N := some 53) #[true,true,true,false,false] rfl rfl zk (by decide) (fun K hK => ?_)
       refine goes_ Tryd.func7 zk rfl #[.agg #[.slice A0_0 l0_0.length c0_0]] (by rfl) rfl rfl zA ?_
       with_reducible refine (laws_toGarden.calls kj10 _ _ l0_0 t121 _ ?side1 ?side2 A36.out).mono ?_
       (case side1 => exact zC (Kd.C_below HR0_0.out HB.out))
       (case side2 => exact HC0_0.out)
       rintro e w42 ⟨v122, rfl, ho0, hb⟩
       refine ⟨_, rfl, ?_⟩
       have n_ := y7 (Kd.R_elder' (zR HO_4.out) (Kd.R_base ho0) hb) (Kd.R_elder' (zR HO_8.out) (Kd.R_base ho0) hb) (Kd.R_elder' (zR HO_115000.out) (Kd.R_base ho0) hb) (Kd.R_lower (Kd.R_new' (Kd.R_new' (Kd.R_new' ho0 (Kd.R_lt (zR HO_4.out))) (Kd.R_lt (zR HO_8.out))) (Kd.R_lt (zR HO_115000.out))) (below_size (zB))) (zb BK101.out hb) (zb BK114.out hb) (below_step (zB) hb)
       clear HO_4 HO_8 HO_115000 BK101 BK114 HB
       obtain ⟨HO_4, HO_8, HO_115000, HO123, BK101, BK114, HB⟩ := n_
       (try clear hb)
       (try clear hb2)
       (try clear hk)
       (try clear hi)
       (try clear ho0)
       obtain ⟨Ao43, co43, eo43⟩ := Kd.R_slice HO123.out
       (first | subst eo43 | (injection eo43 with f1_ f2_ f3_; have f4_ := f1_.symm; have f5_ := f3_.symm; clear f1_ f2_ f3_; subst f4_; subst f5_))
       refine hK.out _ _ ⟨(blk_cell BK114.out 0).trans rfl, (blk_cell BK101.out 0).trans rfl⟩ (fun hHeld => ?_)
       clear hK K
       refine norm_ (a' := ?_) ?_ ?_
       rotate_left
       · show Act.put _ (some 53) _ = _
         simp only [Act.put, List.setIfInBounds_toArray, List.set_cons_zero, List.set_cons_succ, i64_w, i32_w]
         rfl
       refine one_ (i := 3) (N := some 54) #[true,true,true,true,false] rfl rfl zk (by decide) (fun K hK => ?_)
       refine goes_ Tryd.func10 zk rfl #[.agg #[.slice Ao22 t111.length co22], .agg #[.slice Ao43 t121.length co43]] (by rfl) rfl rfl zA ?_
       with_reducible refine (laws_eqGarden.calls kj10 _ _ t111 _ _ t121 true _ ?side1 ?side2 ?side3 ?side4 A37.out).mono ?_
       (case side1 => exact zC (Kd.R_reads' HO_115000.out).2.2)
       (case side2 => exact (Kd.R_reads' HO_115000.out).2.1)
       (case side3 => exact zC (Kd.R_reads' HO123.out).2.2)
       (case side4 => exact (Kd.R_reads' HO123.out).2.1)
       rintro e w44 ⟨rfl, hb⟩
       refine ⟨_, rfl, ?_⟩
       have n_ := y7 (Kd.R_below (zR HO_4.out) hb) (Kd.R_below (zR HO_8.out) hb) (Kd.R_below (zR HO_115000.out) hb) (Kd.R_below (zR HO123.out) hb) (zb BK101.out hb) (zb BK114.out hb) (below_step (zB) hb)
       clear HO_4 HO_8 HO_115000 HO123 BK101 BK114 HB
       obtain ⟨HO_4, HO_8, HO_115000, HO123, BK101, BK114, HB⟩ := n_
       (try clear hb)
       (try clear hb2)
       (try clear hk)
       (try clear hi)
       refine hK.out _ _ ⟨(blk_cell BK114.out 0).trans rfl, (blk_cell BK101.out 0).trans rfl⟩ (fun hHeld => ?_)
       clear hK K
       refine norm_ (a' := ?_) ?_ ?_
       rotate_left
       · show Act.put _ (some 54) _ = _
         simp only [Act.put, List.setIfInBounds_toArray, List.set_cons_zero, List.set_cons_succ, i64_w, i32_w]
         rfl
       refine pure_ (i := 4) (N := some 55) (v := ?_) (a' := ?_) #[true,true,true,true,true] rfl rfl zk (fun _ _ _ h => h) (Or.inl ⟨by rfl, ?_⟩) ?_ ?_
       rotate_left; exact zp; rotate_left; exact zq
       refine done_ zk ?_
       have hnb45 := NB114_101.out
       have hnc45 := NB101_114.out
       have hcz46_0 := zc BK114.out
       have hfz46_0 := blk_frozen BK114.out 0
       go_upto_region 14 with (first | ((with_reducible refine gate_callee (f := 11) rfl ?_); refine goesL_ (some 58) rfl rfl Tryd.func11 zk rfl #[.agg #[.slice Ao22 t111.length co22], .int .i64 1] rfl zA ?_; (with_reducible refine (laws_markGarden.calls kj10 (fun k_ => some k_ = (.slice Ao22 t111.length co22 : Value).ownBlock) (.slice Ao22 t111.length co22) t111 1 t125 t126 w _ ?side1 ?side2 A39.out).mono ?_); (case side1 => exact zB); (case side2 => exact Kd.R_tight rfl HO_115000.out); rintro e w47 ⟨rfl, hy0, hb, hkp⟩; refine ⟨_, rfl, ?_⟩; have n_ := y7 (Kd.R_mono (ok' := fun k_ => some k_ ≠ (v116 : Value).ownBlock ∧ some k_ ≠ (.slice Ao22 t111.length co22 : Value).ownBlock ∧ some k_ ≠ (.slice Ao43 t121.length co43 : Value).ownBlock) (Kd.R_keptB (HO_4.out) hkp (fun k_ hk_ hs_ => (hk_.1.2) hs_)) (fun k_ hk_ => ⟨hk_.1.1.1, hk_.1.1.2, hk_.1.2⟩)) (Kd.R_mono (ok' := fun k_ => some k_ ≠ (v107 : Value).ownBlock ∧ some k_ ≠ (.slice Ao22 t111.length co22 : Value).ownBlock ∧ some k_ ≠ (.slice Ao43 t121.length co43 : Value).ownBlock) (Kd.R_keptB (HO_8.out) hkp (fun k_ hk_ hs_ => (hk_.1.2) hs_)) (fun k_ hk_ => ⟨hk_.1.1.1, hk_.1.1.2, hk_.1.2⟩)) (Kd.R_reok rfl hy0 (fun k_ e_ => HO_115000.out.1 k_ e_)) (blk_kept (zG BK101.out) hkp (fun hs_ => (fun e_ => (Kd.R_ne HO_115000.out BK101.out (by decide)) e_) hs_)) (blk_kept (zG BK114.out) hkp (fun hs_ => (fun e_ => (Kd.R_ne HO_115000.out BK114.out (by decide)) e_) hs_)) (Kd.R_mono (ok' := fun k_ => some k_ ≠ (v107 : Value).ownBlock ∧ some k_ ≠ (v116 : Value).ownBlock ∧ some k_ ≠ (.slice Ao22 t111.length co22 : Value).ownBlock) (Kd.R_keptB (HO123.out) hkp (fun k_ hk_ hs_ => (hk_.2) hs_)) (fun k_ hk_ => ⟨hk_.1.1.1.2, hk_.1.1.2, hk_.1.2⟩)) (hb); clear HO_4 HO_8 HO_115000 BK101 BK114 HO123 HB; obtain ⟨HO_4, HO_8, HO_115000, BK101, BK114, HO123, HB⟩ := n_; (try clear hb); (try clear hkp); (try clear hy0)))
       (try simp only [Act.put, List.setIfInBounds_toArray, List.set_cons_zero, List.set_cons_succ])
       go_cut [76] (fun v76 wc => ∃ (kq : Nat) (x76_39 : Bool), v76 = .bool x76_39 ∧ Aside0 (laws_FnExactTurnsByHeight.j1 kq t106 t109 t110 t115 x76_39 l0_0 = some r) ∧ Aside0 (kq ≤ kj10) ∧ Aside0 (Kd.R (Kd.int .i64) 2 wc w.heap.size (fun k_ => some k_ ≠ (v116 : Value).ownBlock ∧ some k_ ≠ ((.slice Ao22 t111.length co22) : Value).ownBlock) v107 t106) ∧ Aside0 (Kd.R (Kd.int .i64) 2 wc w.heap.size (fun k_ => some k_ ≠ (v107 : Value).ownBlock ∧ some k_ ≠ ((.slice Ao22 t111.length co22) : Value).ownBlock) v116 t115) ∧ Aside0 (Kd.R (Kd.int .i64) 2 wc w.heap.size (fun k_ => some k_ ≠ (v107 : Value).ownBlock ∧ some k_ ≠ (v116 : Value).ownBlock) (.slice Ao22 t111.length co22) t126) ∧ Aside0 (wc.heap[gb101]? = some (.cells #[(.slice A0_0 l0_0.length c0_0)] 24 (0, 0))) ∧ Aside0 (wc.heap[gb114]? = some (.cells #[(.slice Ao22 t111.length co22)] 28 (0, 0))) ∧ Aside0 (Below w.heap.size w wc))
       case first =>
         have H := HC40.out
         clear HC40
         by_cases c48 : t125 < 0
         · rw [if_pos c48] at H
           have c48b0 : decide (t125 < 0) = true := decide_eq_true c48
           clear c48
           (first | rw [c48b0] | (simp only [i64_w, i32_w]; rw [c48b0]) | skip)
           have H' := Aside0.mk H
           clear H
           go_wp2
           go_meet
           case rel => exact ⟨_, (true), zF, H', ⟨by have := HJ10.out; first | omega | exact Nat.le_refl _⟩, ⟨by refine zR ?_; exact Kd.R_mono HO_4.out (fun _ hk => ⟨hk.1, hk.2.1⟩)⟩, ⟨by refine zR ?_; exact Kd.R_mono HO_8.out (fun _ hk => ⟨hk.1, hk.2.1⟩)⟩, ⟨by refine zR ?_; exact Kd.R_mono HO_115000.out (fun _ hk => ⟨hk.1.1, hk.1.2⟩)⟩, ⟨zG BK101.out⟩, ⟨zG BK114.out⟩, ⟨zB⟩⟩
         · rw [if_neg c48] at H
           have c48b0 : decide (t125 < 0) = false := decide_eq_false c48
           clear c48
           (first | rw [c48b0] | (simp only [i64_w, i32_w]; rw [c48b0]) | skip)
           replace H := Option.bind_eq_some_iff.mp H
           obtain ⟨t127, A490, H⟩ := H
           replace H : (if t127 = true then (if t118 = t109 then (laws_FnExactTurnsByHeight.j1 kj10 t106 t109 t110 t115 (t119 != t110) l0_0) else (laws_FnExactTurnsByHeight.j1 kj10 t106 t109 t110 t115 true l0_0)) else (laws_FnExactTurnsByHeight.j1 kj10 t106 t109 t110 t115 true l0_0)) = some r := H
           have A49 := Aside0.mk A490
           clear A490
           by_cases c50 : t127 = true
           · subst c50
             have H1 : (if t118 = t109 then (laws_FnExactTurnsByHeight.j1 kj10 t106 t109 t110 t115 (t119 != t110) l0_0) else (laws_FnExactTurnsByHeight.j1 kj10 t106 t109 t110 t115 true l0_0)) = some r := by rw [if_pos rfl] at H; exact H
             clear H
             have H := H1
             clear H1
             by_cases c51 : t118 = t109
             · rw [if_pos c51] at H
               have c51b0 : (t118 == t109) = true := beq_iff_eq.mpr c51
               have c51b1 : (t118 != t109) = false := bne_eq_false_iff_eq.mpr c51
               clear c51
               have H' := Aside0.mk H
               clear H
               obtain ⟨Ao52, co52, eo52⟩ := Kd.R_slice HO_8.out
               subst eo52
               obtain ⟨Ao53, co53, eo53⟩ := Kd.R_slice HO_4.out
               subst eo53
               go_wp2_with (first | (go_at_call 9; (with_reducible refine (laws_eqInt64S.calls kj10 _ _ t115 _ _ t106 true _ ?side1 ?side2 ?side3 ?side4 A49.out).mono ?_); (case side1 => exact zC (Kd.R_reads' HO_8.out).2.2); (case side2 => exact (Kd.R_reads' HO_8.out).2.1); (case side3 => exact zC (Kd.R_reads' HO_4.out).2.2); (case side4 => exact (Kd.R_reads' HO_4.out).2.1); rintro e w' ⟨rfl, ⟨nd, rfl⟩⟩))
               go_meet
               case rel => exact ⟨_, ((t119 != t110)), zF, H', ⟨by have := HJ10.out; first | omega | exact Nat.le_refl _⟩, ⟨by refine zR ?_; exact Kd.R_mono HO_4.out (fun _ hk => ⟨hk.1, hk.2.1⟩)⟩, ⟨by refine zR ?_; exact Kd.R_mono HO_8.out (fun _ hk => ⟨hk.1, hk.2.1⟩)⟩, ⟨by refine zR ?_; exact Kd.R_mono HO_115000.out (fun _ hk => ⟨hk.1.1, hk.1.2⟩)⟩, ⟨zG BK101.out⟩, ⟨zG BK114.out⟩, ⟨zB⟩⟩
             · rw [if_neg c51] at H
               have c51b0 : (t118 == t109) = false := beq_eq_false_iff_ne.mpr c51
               have c51b1 : (t118 != t109) = true := bne_iff_ne.mpr c51
               have H' := Aside0.mk H
               clear H
               obtain ⟨Ao54, co54, eo54⟩ := Kd.R_slice HO_8.out
               subst eo54
               obtain ⟨Ao55, co55, eo55⟩ := Kd.R_slice HO_4.out
               subst eo55
               go_wp2_with (first | (go_at_call 9; (with_reducible refine (laws_eqInt64S.calls kj10 _ _ t115 _ _ t106 true _ ?side1 ?side2 ?side3 ?side4 A49.out).mono ?_); (case side1 => exact zC (Kd.R_reads' HO_8.out).2.2); (case side2 => exact (Kd.R_reads' HO_8.out).2.1); (case side3 => exact zC (Kd.R_reads' HO_4.out).2.2); (case side4 => exact (Kd.R_reads' HO_4.out).2.1); rintro e w' ⟨rfl, ⟨nd, rfl⟩⟩))
               go_meet
               case rel => exact ⟨_, (true), zF, H', ⟨by have := HJ10.out; first | omega | exact Nat.le_refl _⟩, ⟨by refine zR ?_; exact Kd.R_mono HO_4.out (fun _ hk => ⟨hk.1, hk.2.1⟩)⟩, ⟨by refine zR ?_; exact Kd.R_mono HO_8.out (fun _ hk => ⟨hk.1, hk.2.1⟩)⟩, ⟨by refine zR ?_; exact Kd.R_mono HO_115000.out (fun _ hk => ⟨hk.1.1, hk.1.2⟩)⟩, ⟨zG BK101.out⟩, ⟨zG BK114.out⟩, ⟨zB⟩⟩
           · replace c50 := Bool.eq_false_iff.mpr c50
             subst c50
             have H1 : (laws_FnExactTurnsByHeight.j1 kj10 t106 t109 t110 t115 true l0_0) = some r := by rw [if_neg (show ¬ (false = true) by decide)] at H; exact H
             clear H
             have H := H1
             clear H1
             have H' := Aside0.mk H
             clear H
             obtain ⟨Ao56, co56, eo56⟩ := Kd.R_slice HO_8.out
             subst eo56
             obtain ⟨Ao57, co57, eo57⟩ := Kd.R_slice HO_4.out
             subst eo57
             go_wp2_with (first | (go_at_call 9; (with_reducible refine (laws_eqInt64S.calls kj10 _ _ t115 _ _ t106 false _ ?side1 ?side2 ?side3 ?side4 A49.out).mono ?_); (case side1 => exact zC (Kd.R_reads' HO_8.out).2.2); (case side2 => exact (Kd.R_reads' HO_8.out).2.1); (case side3 => exact zC (Kd.R_reads' HO_4.out).2.2); (case side4 => exact (Kd.R_reads' HO_4.out).2.1); rintro e w' ⟨rfl, ⟨nd, rfl⟩⟩))
             go_meet
             case rel => exact ⟨_, (true), zF, H', ⟨by have := HJ10.out; first | omega | exact Nat.le_refl _⟩, ⟨by refine zR ?_; exact Kd.R_mono HO_4.out (fun _ hk => ⟨hk.1, hk.2.1⟩)⟩, ⟨by refine zR ?_; exact Kd.R_mono HO_8.out (fun _ hk => ⟨hk.1, hk.2.1⟩)⟩, ⟨by refine zR ?_; exact Kd.R_mono HO_115000.out (fun _ hk => ⟨hk.1.1, hk.1.2⟩)⟩, ⟨zG BK101.out⟩, ⟨zG BK114.out⟩, ⟨zB⟩⟩
       case rest =>
         clear HC40
         try clear c3
         try clear c3b0
         try clear c35
         try clear c38
         try clear hcz13_0
         try clear hcz15_0
         try clear hcz19_0
         try clear hcz24_0
         try clear hcz46_0
         try clear hfz13_0
         try clear hfz15_0
         try clear hfz19_0
         try clear hfz24_0
         try clear hfz46_0
         obtain ⟨kq, x76_39, rfl, HA, HJ39, HO_4, HO_8, HO_115000, BK101, BK114, HB⟩ := hcut
         have hl115000_39 := (Kd.R_reads' HO_115000.out).1
         rw [hl115000_39] at HO_115000
         (try simp only [hl115000_39])
         (try simp only [hl115000_39] at BK101)
         (try simp only [hl115000_39] at BK114)
         (try simp only [hl115000_39] at HO_4)
         (try simp only [hl115000_39] at HO_8)
         cases kq with
         | zero => exact absurd HA.out (by simp [laws_FnExactTurnsByHeight.j1])
         | succ kj39 =>
           have H := HA.out
           clear HA
           simp only [laws_FnExactTurnsByHeight.j1] at H
           by_cases c58 : x76_39 = true
           · subst c58
             have H1 : (some false) = some r := by rw [if_pos rfl] at H; exact H
             clear H
             have H := H1
             clear H1
             obtain rfl := Option.some.inj H
             go_wp2
             go_ret
             exact ⟨zE, zB⟩
           · replace c58 := Bool.eq_false_iff.mpr c58
             subst c58
             have H1 : ((laws_markInt64S.f kj39 t115 1).bind fun bt128 => ((laws_heldInt64S.f kj39 bt128.2 1).bind fun t130 => (if t130 < 0 then (some false) else (if t130 = bt128.1 then ((laws_toGarden.f kj39 l0_0).bind fun t131 => ((impl_TurnsByHeight.f t131).bind fun bt134 => ((laws_eqInt64S.f kj39 bt134.1 t106).bind fun t139 => (if t139 = true then (if bt134.2.1 = t109 then (laws_FnExactTurnsByHeight.j2 kj39 bt128.2 bt128.1 (bt134.2.2 != t110)) else (laws_FnExactTurnsByHeight.j2 kj39 bt128.2 bt128.1 true)) else (laws_FnExactTurnsByHeight.j2 kj39 bt128.2 bt128.1 true))))) else (some false))))) = some r := by rw [if_neg (show ¬ (false = true) by decide)] at H; exact H
             clear H
             have H := H1
             clear H1
             replace H := Option.bind_eq_some_iff.mp H
             obtain ⟨⟨t128, t129⟩, A590, H⟩ := H
             replace H : ((laws_heldInt64S.f kj39 t129 1).bind fun t130 => (if t130 < 0 then (some false) else (if t130 = t128 then ((laws_toGarden.f kj39 l0_0).bind fun t131 => ((impl_TurnsByHeight.f t131).bind fun bt134 => ((laws_eqInt64S.f kj39 bt134.1 t106).bind fun t139 => (if t139 = true then (if bt134.2.1 = t109 then (laws_FnExactTurnsByHeight.j2 kj39 t129 t128 (bt134.2.2 != t110)) else (laws_FnExactTurnsByHeight.j2 kj39 t129 t128 true)) else (laws_FnExactTurnsByHeight.j2 kj39 t129 t128 true))))) else (some false)))) = some r := H
             have A59 := Aside0.mk A590
             clear A590
             replace H := Option.bind_eq_some_iff.mp H
             obtain ⟨t130, A600, H⟩ := H
             replace H : (if t130 < 0 then (some false) else (if t130 = t128 then ((laws_toGarden.f kj39 l0_0).bind fun t131 => ((impl_TurnsByHeight.f t131).bind fun bt134 => ((laws_eqInt64S.f kj39 bt134.1 t106).bind fun t139 => (if t139 = true then (if bt134.2.1 = t109 then (laws_FnExactTurnsByHeight.j2 kj39 t129 t128 (bt134.2.2 != t110)) else (laws_FnExactTurnsByHeight.j2 kj39 t129 t128 true)) else (laws_FnExactTurnsByHeight.j2 kj39 t129 t128 true))))) else (some false))) = some r := H
             have A60 := Aside0.mk A600
             clear A600
             by_cases c61 : t130 < 0
             · rw [if_pos c61] at H
               have c61b0 : decide (t130 < 0) = true := decide_eq_true c61
               clear c61
               obtain rfl := Option.some.inj H
               obtain ⟨Ao62, co62, eo62⟩ := Kd.R_slice HO_8.out
               subst eo62
               go_wp2_with (first | ((with_reducible refine gate_callee (f := 12) rfl ?_); refine goesL_ (some 79) rfl rfl Tryd.func12 zk rfl #[.slice Ao62 t115.length co62, .int .i64 1] rfl zA ?_; (with_reducible refine (laws_markInt64S.calls kj39 (fun k_ => some k_ = (.slice Ao62 t115.length co62 : Value).ownBlock) (.slice Ao62 t115.length co62) t115 1 t128 t129 w _ ?side1 ?side2 A59.out).mono ?_); (case side1 => exact zB); (case side2 => exact Kd.R_tight rfl HO_8.out); rintro e w63 ⟨rfl, hy0, hb, hkp⟩; refine ⟨_, rfl, ?_⟩; have n_ := y6 (Kd.R_mono (ok' := fun k_ => some k_ ≠ (.slice Ao62 t115.length co62 : Value).ownBlock ∧ some k_ ≠ (.slice Ao22 t126.length co22 : Value).ownBlock) (Kd.R_keptB (HO_4.out) hkp (fun k_ hk_ hs_ => (hk_.1) hs_)) (fun k_ hk_ => ⟨hk_.1.1, hk_.1.2⟩)) (Kd.R_reok rfl hy0 (fun k_ e_ => HO_8.out.1 k_ e_)) (Kd.R_mono (ok' := fun k_ => some k_ ≠ (v107 : Value).ownBlock ∧ some k_ ≠ (.slice Ao62 t115.length co62 : Value).ownBlock) (Kd.R_keptB (HO_115000.out) hkp (fun k_ hk_ hs_ => (hk_.2) hs_)) (fun k_ hk_ => ⟨hk_.1.1, hk_.1.2⟩)) (blk_kept (zG BK101.out) hkp (fun hs_ => (fun e_ => (Kd.R_ne HO_8.out BK101.out (by decide)) e_) hs_)) (blk_kept (zG BK114.out) hkp (fun hs_ => (fun e_ => (Kd.R_ne HO_8.out BK114.out (by decide)) e_) hs_)) (hb); clear HO_4 HO_8 HO_115000 BK101 BK114 HB; obtain ⟨HO_4, HO_8, HO_115000, BK101, BK114, HB⟩ := n_; (try clear hb); (try clear hkp); (try clear hy0)) | ((with_reducible refine gate_callee (f := 13) rfl ?_); refine goesL_ (some 82) rfl rfl Tryd.func13 zk rfl #[.slice Ao62 t129.length co62, .int .i64 1] rfl (by (try simp only [List.map_toArray, List.map_cons, List.map_nil]); first | done | (rw [show t129.length = t115.length from (Kd.R_reads' HO_8.out).1.symm] <;> rfl) | rfl | (simp only [List.length_drop, List.length_take]; rfl)) ?_; (with_reducible refine (laws_heldInt64S.calls kj39 _ _ t129 1 t130 _ ?side1 ?side2 A60.out).mono ?_); (case side1 => exact zC (Kd.R_reads' HO_8.out).2.2); (case side2 => rw [show t129.length = t115.length from (Kd.R_reads' HO_8.out).1.symm]; exact (Kd.R_reads' HO_8.out).2.1); rintro e w' ⟨rfl, ⟨nd, rfl⟩⟩; refine ⟨_, rfl, ?_⟩))
               go_ret
               exact ⟨zE, zB⟩
             · rw [if_neg c61] at H
               have c61b0 : decide (t130 < 0) = false := decide_eq_false c61
               clear c61
               by_cases c64 : t130 = t128
               · rw [if_pos c64] at H
                 have c64b0 : (t130 == t128) = true := beq_iff_eq.mpr c64
                 have c64b1 : (t130 != t128) = false := bne_eq_false_iff_eq.mpr c64
                 clear c64
                 replace H := Option.bind_eq_some_iff.mp H
                 obtain ⟨t131, A650, H⟩ := H
                 replace H : ((impl_TurnsByHeight.f t131).bind fun bt134 => ((laws_eqInt64S.f kj39 bt134.1 t106).bind fun t139 => (if t139 = true then (if bt134.2.1 = t109 then (laws_FnExactTurnsByHeight.j2 kj39 t129 t128 (bt134.2.2 != t110)) else (laws_FnExactTurnsByHeight.j2 kj39 t129 t128 true)) else (laws_FnExactTurnsByHeight.j2 kj39 t129 t128 true)))) = some r := H
                 have A65 := Aside0.mk A650
                 clear A650
                 replace H := Option.bind_eq_some_iff.mp H
                 obtain ⟨⟨t134, t137, t138⟩, A660, H⟩ := H
                 replace H : ((laws_eqInt64S.f kj39 t134 t106).bind fun t139 => (if t139 = true then (if t137 = t109 then (laws_FnExactTurnsByHeight.j2 kj39 t129 t128 (t138 != t110)) else (laws_FnExactTurnsByHeight.j2 kj39 t129 t128 true)) else (laws_FnExactTurnsByHeight.j2 kj39 t129 t128 true))) = some r := H
                 have A66 := Aside0.mk A660
                 clear A660
                 have HC67 := Aside0.mk H
                 clear H
                 obtain ⟨Ao68, co68, eo68⟩ := Kd.R_slice HO_8.out
                 subst eo68
                 go_upto_region 25 with (first | ((with_reducible refine gate_callee (f := 12) rfl ?_); refine goesL_ (some 79) rfl rfl Tryd.func12 zk rfl #[.slice Ao68 t115.length co68, .int .i64 1] rfl zA ?_; (with_reducible refine (laws_markInt64S.calls kj39 (fun k_ => some k_ = (.slice Ao68 t115.length co68 : Value).ownBlock) (.slice Ao68 t115.length co68) t115 1 t128 t129 w _ ?side1 ?side2 A59.out).mono ?_); (case side1 => exact zB); (case side2 => exact Kd.R_tight rfl HO_8.out); rintro e w69 ⟨rfl, hy0, hb, hkp⟩; refine ⟨_, rfl, ?_⟩; have n_ := y6 (Kd.R_mono (ok' := fun k_ => some k_ ≠ (.slice Ao68 t115.length co68 : Value).ownBlock ∧ some k_ ≠ (.slice Ao22 t126.length co22 : Value).ownBlock) (Kd.R_keptB (HO_4.out) hkp (fun k_ hk_ hs_ => (hk_.1) hs_)) (fun k_ hk_ => ⟨hk_.1.1, hk_.1.2⟩)) (Kd.R_reok rfl hy0 (fun k_ e_ => HO_8.out.1 k_ e_)) (Kd.R_mono (ok' := fun k_ => some k_ ≠ (v107 : Value).ownBlock ∧ some k_ ≠ (.slice Ao68 t115.length co68 : Value).ownBlock) (Kd.R_keptB (HO_115000.out) hkp (fun k_ hk_ hs_ => (hk_.2) hs_)) (fun k_ hk_ => ⟨hk_.1.1, hk_.1.2⟩)) (blk_kept (zG BK101.out) hkp (fun hs_ => (fun e_ => (Kd.R_ne HO_8.out BK101.out (by decide)) e_) hs_)) (blk_kept (zG BK114.out) hkp (fun hs_ => (fun e_ => (Kd.R_ne HO_8.out BK114.out (by decide)) e_) hs_)) (hb); clear HO_4 HO_8 HO_115000 BK101 BK114 HB; obtain ⟨HO_4, HO_8, HO_115000, BK101, BK114, HB⟩ := n_; (try clear hb); (try clear hkp); (try clear hy0)) | ((with_reducible refine gate_callee (f := 13) rfl ?_); refine goesL_ (some 82) rfl rfl Tryd.func13 zk rfl #[.slice Ao68 t129.length co68, .int .i64 1] rfl (by (try simp only [List.map_toArray, List.map_cons, List.map_nil]); first | done | (rw [show t129.length = t115.length from (Kd.R_reads' HO_8.out).1.symm] <;> rfl) | rfl | (simp only [List.length_drop, List.length_take]; rfl)) ?_; (with_reducible refine (laws_heldInt64S.calls kj39 _ _ t129 1 t130 _ ?side1 ?side2 A60.out).mono ?_); (case side1 => exact zC (Kd.R_reads' HO_8.out).2.2); (case side2 => rw [show t129.length = t115.length from (Kd.R_reads' HO_8.out).1.symm]; exact (Kd.R_reads' HO_8.out).2.1); rintro e w' ⟨rfl, ⟨nd, rfl⟩⟩; refine ⟨_, rfl, ?_⟩; have hnb70 := NB101_114.out; have hnc70 := NB114_101.out; have hcz71_0 := zc BK101.out; have hfz71_0 := blk_frozen BK101.out 0) | ((with_reducible refine gate_callee (f := 7) rfl ?_); refine goesL_ (some 90) rfl rfl Tryd.func7 zk rfl #[.agg #[.slice A0_0 l0_0.length c0_0]] rfl zA ?_; (with_reducible refine (laws_toGarden.calls kj39 _ _ l0_0 t131 _ ?side1 ?side2 A65.out).mono ?_); (case side1 => exact zC (Kd.C_below HR0_0.out (zB))); (case side2 => exact HC0_0.out); rintro e w72 ⟨v132, rfl, ho0, hb⟩; refine ⟨_, rfl, ?_⟩; have n_ := y7 (Kd.R_elder' (zR HO_4.out) (Kd.R_base ho0) hb) (Kd.R_elder' (zR HO_8.out) (Kd.R_base ho0) hb) (Kd.R_elder' (zR HO_115000.out) (Kd.R_base ho0) hb) (Kd.R_lower (Kd.R_new' (Kd.R_new' (Kd.R_new' ho0 (Kd.R_lt (zR HO_4.out))) (Kd.R_lt (zR HO_8.out))) (Kd.R_lt (zR HO_115000.out))) (below_size (zB))) (zb BK101.out hb) (zb BK114.out hb) (below_step (zB) hb); clear HO_4 HO_8 HO_115000 BK101 BK114 HB; obtain ⟨HO_4, HO_8, HO_115000, HO133, BK101, BK114, HB⟩ := n_; (try clear hb); (try clear hb2); (try clear hk); (try clear hi); (try clear ho0); obtain ⟨Ao73, co73, eo73⟩ := Kd.R_slice HO133.out; subst eo73) | ((with_reducible refine gate_callee (f := 15) rfl ?_); refine goesL_ (some 91) rfl rfl Tryd.func15 zk rfl #[.agg #[.slice Ao73 t131.length co73]] rfl zA ?_; (with_reducible refine (impl_TurnsByHeight.calls _ _ t131 t134 t137 t138 _ ?side1 ?side2 A66.out).mono ?_); (case side1 => exact zC (Kd.R_reads' HO133.out).2.2); (case side2 => exact (Kd.R_reads' HO133.out).2.1); rintro e w74 ⟨v135, rfl, ho0, hb⟩; refine ⟨_, rfl, ?_⟩; have n_ := y8 (Kd.R_elder' (zR HO_4.out) (Kd.R_base ho0) hb) (Kd.R_elder' (zR HO_8.out) (Kd.R_base ho0) hb) (Kd.R_elder' (zR HO_115000.out) (Kd.R_base ho0) hb) (Kd.R_elder' (zR HO133.out) (Kd.R_base ho0) hb) (Kd.R_lower (Kd.R_new' (Kd.R_new' (Kd.R_new' (Kd.R_new' ho0 (Kd.R_lt (zR HO_4.out))) (Kd.R_lt (zR HO_8.out))) (Kd.R_lt (zR HO_115000.out))) (Kd.R_lt (zR HO133.out))) (below_size (zB))) (zb BK101.out hb) (zb BK114.out hb) (below_step (zB) hb); clear HO_4 HO_8 HO_115000 HO133 BK101 BK114 HB; obtain ⟨HO_4, HO_8, HO_115000, HO133, HO136, BK101, BK114, HB⟩ := n_; (try clear hb); (try clear hb2); (try clear hk); (try clear hi); (try clear ho0)))
                 (try simp only [Act.put, List.setIfInBounds_toArray, List.set_cons_zero, List.set_cons_succ])
                 go_cut [108] (fun u108_ wc => ∃ (kq : Nat) (x108_66 : Bool), u108_ = .bool x108_66 ∧ Aside0 (laws_FnExactTurnsByHeight.j2 kq t129 t128 x108_66 = some r) ∧ Aside0 (kq ≤ kj39) ∧ Aside0 (Kd.R (Kd.int .i64) 2 wc w.heap.size (fun k_ => some k_ ≠ ((.slice Ao22 t126.length co22) : Value).ownBlock) (.slice Ao68 t115.length co68) t129) ∧ Aside0 (Kd.R (Kd.int .i64) 2 wc w.heap.size (fun k_ => some k_ ≠ ((.slice Ao68 t115.length co68) : Value).ownBlock) (.slice Ao22 t126.length co22) t126) ∧ Aside0 (wc.heap[gb101]? = some (.cells #[(.slice A0_0 l0_0.length c0_0)] 24 (0, 0))) ∧ Aside0 (wc.heap[gb114]? = some (.cells #[(.slice Ao22 t126.length co22)] 28 (0, 0))) ∧ Aside0 (Below w.heap.size w wc))
                 case first =>
                   have H := HC67.out
                   clear HC67
                   replace H := Option.bind_eq_some_iff.mp H
                   obtain ⟨t139, A750, H⟩ := H
                   replace H : (if t139 = true then (if t137 = t109 then (laws_FnExactTurnsByHeight.j2 kj39 t129 t128 (t138 != t110)) else (laws_FnExactTurnsByHeight.j2 kj39 t129 t128 true)) else (laws_FnExactTurnsByHeight.j2 kj39 t129 t128 true)) = some r := H
                   have A75 := Aside0.mk A750
                   clear A750
                   by_cases c76 : t139 = true
                   · subst c76
                     have H1 : (if t137 = t109 then (laws_FnExactTurnsByHeight.j2 kj39 t129 t128 (t138 != t110)) else (laws_FnExactTurnsByHeight.j2 kj39 t129 t128 true)) = some r := by rw [if_pos rfl] at H; exact H
                     clear H
                     have H := H1
                     clear H1
                     by_cases c77 : t137 = t109
                     · rw [if_pos c77] at H
                       have c77b0 : (t137 == t109) = true := beq_iff_eq.mpr c77
                       have c77b1 : (t137 != t109) = false := bne_eq_false_iff_eq.mpr c77
                       clear c77
                       (first | rw [c77b0] | (simp only [i64_w, i32_w]; rw [c77b0]) | skip)
                       have H' := Aside0.mk H
                       clear H
                       obtain ⟨Ao78, co78, eo78⟩ := Kd.R_slice HO136.out
                       subst eo78
                       obtain ⟨Ao79, co79, eo79⟩ := Kd.R_slice HO_4.out
                       subst eo79
                       go_wp2_with (first | ((with_reducible refine gate_callee (f := 9) rfl ?_); refine goesL_ (some 97) rfl rfl Tryd.func9 zk rfl #[.slice Ao78 t134.length co78, .slice Ao79 t106.length co79] rfl zA ?_; (with_reducible refine (laws_eqInt64S.calls kj39 _ _ t134 _ _ t106 true _ ?side1 ?side2 ?side3 ?side4 A75.out).mono ?_); (case side1 => exact zC (Kd.R_reads' HO136.out).2.2); (case side2 => exact (Kd.R_reads' HO136.out).2.1); (case side3 => exact zC (Kd.R_reads' HO_4.out).2.2); (case side4 => exact (Kd.R_reads' HO_4.out).2.1); rintro e w' ⟨rfl, ⟨nd, rfl⟩⟩; refine ⟨_, rfl, ?_⟩))
                       go_meet
                       case rel => exact ⟨_, ((t138 != t110)), zF, H', ⟨by have := HJ10.out; have := HJ39.out; first | omega | exact Nat.le_refl _⟩, ⟨by (try simp only [hl115000_39]); refine zR ?_; exact Kd.R_mono HO_8.out (fun _ hk => hk.1.1.2)⟩, ⟨by (try simp only [hl115000_39]); refine zR ?_; exact Kd.R_mono HO_115000.out (fun _ hk => hk.1.1.2)⟩, ⟨by (try simp only [hl115000_39]); refine zG ?_; exact BK101.out⟩, ⟨by (try simp only [hl115000_39]); refine zG ?_; exact BK114.out⟩, ⟨zB⟩⟩
                     · rw [if_neg c77] at H
                       have c77b0 : (t137 == t109) = false := beq_eq_false_iff_ne.mpr c77
                       have c77b1 : (t137 != t109) = true := bne_iff_ne.mpr c77
                       (first | rw [c77b0] | (simp only [i64_w, i32_w]; rw [c77b0]) | skip)
                       have H' := Aside0.mk H
                       clear H
                       obtain ⟨Ao80, co80, eo80⟩ := Kd.R_slice HO136.out
                       subst eo80
                       obtain ⟨Ao81, co81, eo81⟩ := Kd.R_slice HO_4.out
                       subst eo81
                       go_wp2_with (first | ((with_reducible refine gate_callee (f := 9) rfl ?_); refine goesL_ (some 97) rfl rfl Tryd.func9 zk rfl #[.slice Ao80 t134.length co80, .slice Ao81 t106.length co81] rfl zA ?_; (with_reducible refine (laws_eqInt64S.calls kj39 _ _ t134 _ _ t106 true _ ?side1 ?side2 ?side3 ?side4 A75.out).mono ?_); (case side1 => exact zC (Kd.R_reads' HO136.out).2.2); (case side2 => exact (Kd.R_reads' HO136.out).2.1); (case side3 => exact zC (Kd.R_reads' HO_4.out).2.2); (case side4 => exact (Kd.R_reads' HO_4.out).2.1); rintro e w' ⟨rfl, ⟨nd, rfl⟩⟩; refine ⟨_, rfl, ?_⟩))
                       go_meet
                       case rel => exact ⟨_, (true), zF, H', ⟨by have := HJ10.out; have := HJ39.out; first | omega | exact Nat.le_refl _⟩, ⟨by (try simp only [hl115000_39]); refine zR ?_; exact Kd.R_mono HO_8.out (fun _ hk => hk.1.1.2)⟩, ⟨by (try simp only [hl115000_39]); refine zR ?_; exact Kd.R_mono HO_115000.out (fun _ hk => hk.1.1.2)⟩, ⟨by (try simp only [hl115000_39]); refine zG ?_; exact BK101.out⟩, ⟨by (try simp only [hl115000_39]); refine zG ?_; exact BK114.out⟩, ⟨zB⟩⟩
                   · replace c76 := Bool.eq_false_iff.mpr c76
                     subst c76
                     have H1 : (laws_FnExactTurnsByHeight.j2 kj39 t129 t128 true) = some r := by rw [if_neg (show ¬ (false = true) by decide)] at H; exact H
                     clear H
                     have H := H1
                     clear H1
                     have H' := Aside0.mk H
                     clear H
                     obtain ⟨Ao82, co82, eo82⟩ := Kd.R_slice HO136.out
                     subst eo82
                     obtain ⟨Ao83, co83, eo83⟩ := Kd.R_slice HO_4.out
                     subst eo83
                     go_wp2_with (first | ((with_reducible refine gate_callee (f := 9) rfl ?_); refine goesL_ (some 97) rfl rfl Tryd.func9 zk rfl #[.slice Ao82 t134.length co82, .slice Ao83 t106.length co83] rfl zA ?_; (with_reducible refine (laws_eqInt64S.calls kj39 _ _ t134 _ _ t106 false _ ?side1 ?side2 ?side3 ?side4 A75.out).mono ?_); (case side1 => exact zC (Kd.R_reads' HO136.out).2.2); (case side2 => exact (Kd.R_reads' HO136.out).2.1); (case side3 => exact zC (Kd.R_reads' HO_4.out).2.2); (case side4 => exact (Kd.R_reads' HO_4.out).2.1); rintro e w' ⟨rfl, ⟨nd, rfl⟩⟩; refine ⟨_, rfl, ?_⟩))
                     go_meet
                     case rel => exact ⟨_, (true), zF, H', ⟨by have := HJ10.out; have := HJ39.out; first | omega | exact Nat.le_refl _⟩, ⟨by (try simp only [hl115000_39]); refine zR ?_; exact Kd.R_mono HO_8.out (fun _ hk => hk.1.1.2)⟩, ⟨by (try simp only [hl115000_39]); refine zR ?_; exact Kd.R_mono HO_115000.out (fun _ hk => hk.1.1.2)⟩, ⟨by (try simp only [hl115000_39]); refine zG ?_; exact BK101.out⟩, ⟨by (try simp only [hl115000_39]); refine zG ?_; exact BK114.out⟩, ⟨zB⟩⟩
                 case rest =>
                   clear HC67
                   try clear c3
                   try clear c3b0
                   try clear c35
                   try clear c38
                   try clear c58
                   try clear c61
                   try clear c61b0
                   try clear c64
                   try clear c64b0
                   try clear c64b1
                   try clear hcz13_0
                   try clear hcz15_0
                   try clear hcz19_0
                   try clear hcz24_0
                   try clear hcz46_0
                   try clear hcz71_0
                   try clear hfz13_0
                   try clear hfz15_0
                   try clear hfz19_0
                   try clear hfz24_0
                   try clear hfz46_0
                   try clear hfz71_0
                   obtain ⟨kq, x108_66, rfl, HA, HJ66, HO_8, HO_115000, BK101, BK114, HB⟩ := hcut
                   have hl8_66 := (Kd.R_reads' HO_8.out).1
                   rw [hl8_66] at HO_8
                   (try simp only [hl8_66])
                   (try simp only [hl8_66] at BK101)
                   (try simp only [hl8_66] at BK114)
                   (try simp only [hl8_66] at HO_115000)
                   cases kq with
                   | zero => exact absurd HA.out (by simp [laws_FnExactTurnsByHeight.j2])
                   | succ kj66 =>
                     have H := HA.out
                     clear HA
                     simp only [laws_FnExactTurnsByHeight.j2] at H
                     by_cases c84 : x108_66 = true
                     · subst c84
                       have H1 : (some false) = some r := by rw [if_pos rfl] at H; exact H
                       clear H
                       have H := H1
                       clear H1
                       obtain rfl := Option.some.inj H
                       go_wp2
                       go_ret
                       exact ⟨zE, zB⟩
                     · replace c84 := Bool.eq_false_iff.mpr c84
                       subst c84
                       have H1 : ((laws_heldInt64S.f kj66 t129 1).bind fun t140 => (if t140 < 0 then (some false) else (if t140 = t128 then (some true) else (some false)))) = some r := by rw [if_neg (show ¬ (false = true) by decide)] at H; exact H
                       clear H
                       have H := H1
                       clear H1
                       replace H := Option.bind_eq_some_iff.mp H
                       obtain ⟨t140, A850, H⟩ := H
                       replace H : (if t140 < 0 then (some false) else (if t140 = t128 then (some true) else (some false))) = some r := H
                       have A85 := Aside0.mk A850
                       clear A850
                       by_cases c86 : t140 < 0
                       · rw [if_pos c86] at H
                         have c86b0 : decide (t140 < 0) = true := decide_eq_true c86
                         clear c86
                         obtain rfl := Option.some.inj H
                         go_wp2_with (first | ((with_reducible refine gate_callee (f := 13) rfl ?_); refine goesL_ (some 111) rfl rfl Tryd.func13 zk rfl #[.slice Ao68 t129.length co68, .int .i64 1] rfl zA ?_; (with_reducible refine (laws_heldInt64S.calls kj66 _ _ t129 1 t140 _ ?side1 ?side2 A85.out).mono ?_); (case side1 => exact zC (Kd.R_reads' HO_8.out).2.2); (case side2 => exact (Kd.R_reads' HO_8.out).2.1); rintro e w' ⟨rfl, ⟨nd, rfl⟩⟩; refine ⟨_, rfl, ?_⟩))
                         go_ret
                         exact ⟨zE, zB⟩
                       · rw [if_neg c86] at H
                         have c86b0 : decide (t140 < 0) = false := decide_eq_false c86
                         clear c86
                         by_cases c87 : t140 = t128
                         · rw [if_pos c87] at H
                           have c87b0 : (t140 == t128) = true := beq_iff_eq.mpr c87
                           have c87b1 : (t140 != t128) = false := bne_eq_false_iff_eq.mpr c87
                           clear c87
                           obtain rfl := Option.some.inj H
                           go_wp2_with (first | ((with_reducible refine gate_callee (f := 13) rfl ?_); refine goesL_ (some 111) rfl rfl Tryd.func13 zk rfl #[.slice Ao68 t129.length co68, .int .i64 1] rfl zA ?_; (with_reducible refine (laws_heldInt64S.calls kj66 _ _ t129 1 t140 _ ?side1 ?side2 A85.out).mono ?_); (case side1 => exact zC (Kd.R_reads' HO_8.out).2.2); (case side2 => exact (Kd.R_reads' HO_8.out).2.1); rintro e w' ⟨rfl, ⟨nd, rfl⟩⟩; refine ⟨_, rfl, ?_⟩))
                           go_ret
                           exact ⟨zE, zB⟩
                         · rw [if_neg c87] at H
                           have c87b0 : (t140 == t128) = false := beq_eq_false_iff_ne.mpr c87
                           have c87b1 : (t140 != t128) = true := bne_iff_ne.mpr c87
                           obtain rfl := Option.some.inj H
                           go_wp2_with (first | ((with_reducible refine gate_callee (f := 13) rfl ?_); refine goesL_ (some 111) rfl rfl Tryd.func13 zk rfl #[.slice Ao68 t129.length co68, .int .i64 1] rfl zA ?_; (with_reducible refine (laws_heldInt64S.calls kj66 _ _ t129 1 t140 _ ?side1 ?side2 A85.out).mono ?_); (case side1 => exact zC (Kd.R_reads' HO_8.out).2.2); (case side2 => exact (Kd.R_reads' HO_8.out).2.1); rintro e w' ⟨rfl, ⟨nd, rfl⟩⟩; refine ⟨_, rfl, ?_⟩))
                           go_ret
                           exact ⟨zE, zB⟩
               · rw [if_neg c64] at H
                 have c64b0 : (t130 == t128) = false := beq_eq_false_iff_ne.mpr c64
                 have c64b1 : (t130 != t128) = true := bne_iff_ne.mpr c64
                 obtain rfl := Option.some.inj H
                 obtain ⟨Ao88, co88, eo88⟩ := Kd.R_slice HO_8.out
                 subst eo88
                 go_wp2_with (first | ((with_reducible refine gate_callee (f := 12) rfl ?_); refine goesL_ (some 79) rfl rfl Tryd.func12 zk rfl #[.slice Ao88 t115.length co88, .int .i64 1] rfl zA ?_; (with_reducible refine (laws_markInt64S.calls kj39 (fun k_ => some k_ = (.slice Ao88 t115.length co88 : Value).ownBlock) (.slice Ao88 t115.length co88) t115 1 t128 t129 w _ ?side1 ?side2 A59.out).mono ?_); (case side1 => exact zB); (case side2 => exact Kd.R_tight rfl HO_8.out); rintro e w89 ⟨rfl, hy0, hb, hkp⟩; refine ⟨_, rfl, ?_⟩; have n_ := y6 (Kd.R_mono (ok' := fun k_ => some k_ ≠ (.slice Ao88 t115.length co88 : Value).ownBlock ∧ some k_ ≠ (.slice Ao22 t126.length co22 : Value).ownBlock) (Kd.R_keptB (HO_4.out) hkp (fun k_ hk_ hs_ => (hk_.1) hs_)) (fun k_ hk_ => ⟨hk_.1.1, hk_.1.2⟩)) (Kd.R_reok rfl hy0 (fun k_ e_ => HO_8.out.1 k_ e_)) (Kd.R_mono (ok' := fun k_ => some k_ ≠ (v107 : Value).ownBlock ∧ some k_ ≠ (.slice Ao88 t115.length co88 : Value).ownBlock) (Kd.R_keptB (HO_115000.out) hkp (fun k_ hk_ hs_ => (hk_.2) hs_)) (fun k_ hk_ => ⟨hk_.1.1, hk_.1.2⟩)) (blk_kept (zG BK101.out) hkp (fun hs_ => (fun e_ => (Kd.R_ne HO_8.out BK101.out (by decide)) e_) hs_)) (blk_kept (zG BK114.out) hkp (fun hs_ => (fun e_ => (Kd.R_ne HO_8.out BK114.out (by decide)) e_) hs_)) (hb); clear HO_4 HO_8 HO_115000 BK101 BK114 HB; obtain ⟨HO_4, HO_8, HO_115000, BK101, BK114, HB⟩ := n_; (try clear hb); (try clear hkp); (try clear hy0)) | ((with_reducible refine gate_callee (f := 13) rfl ?_); refine goesL_ (some 82) rfl rfl Tryd.func13 zk rfl #[.slice Ao88 t129.length co88, .int .i64 1] rfl (by (try simp only [List.map_toArray, List.map_cons, List.map_nil]); first | done | (rw [show t129.length = t115.length from (Kd.R_reads' HO_8.out).1.symm] <;> rfl) | rfl | (simp only [List.length_drop, List.length_take]; rfl)) ?_; (with_reducible refine (laws_heldInt64S.calls kj39 _ _ t129 1 t130 _ ?side1 ?side2 A60.out).mono ?_); (case side1 => exact zC (Kd.R_reads' HO_8.out).2.2); (case side2 => rw [show t129.length = t115.length from (Kd.R_reads' HO_8.out).1.symm]; exact (Kd.R_reads' HO_8.out).2.1); rintro e w' ⟨rfl, ⟨nd, rfl⟩⟩; refine ⟨_, rfl, ?_⟩))
                 go_ret
                 exact ⟨zE, zB⟩
     · replace c38 := Bool.eq_false_iff.mpr c38
       subst c38
       have H1 : (some false) = some r := by rw [if_neg (show ¬ (false = true) by decide)] at H; exact H
       clear H
       have H := H1
       clear H1
       obtain rfl := Option.some.inj H
       try go_wp2
       have n_ := y6 (Kd.R_drew HO_4.out) (Kd.R_drew HO_8.out) (Kd.R_drew HO_115000.out) (blk_drew BK101.out) (blk_drew BK114.out) (below_drew1 HB.out)
       clear HO_4 HO_8 HO_115000 BK101 BK114 HB
       obtain ⟨HO_4, HO_8, HO_115000, BK101, BK114, HB⟩ := n_
       refine start_ (n := 5) (S := fun w' => w'.cell? ⟨gb114, 0, none⟩ = some (.slice Ao22 t111.length co22) ∧ w'.cell? ⟨gb101, 0, none⟩ = some (.slice A0_0 l0_0.length c0_0)) (ds := []) #[false,false,false,false,false] zk rfl rfl ⟨(blk_cell BK114.out 0).trans rfl, (blk_cell BK101.out 0).trans rfl⟩ (fun hHeld => ?_)
       generalize wc.drew = w90 at HO_4 HO_8 HO_115000 BK101 BK114 HB hHeld ⊢
       refine take_ (i := 0) (N := some 51) (v := ?_) (a' := ?_) #[true,false,false,false,false] rfl rfl zk (fun _ _ _ h => h) (Or.inl ⟨by rfl, ?_⟩) hHeld ?_ ?_
       rotate_left
       · rintro w' ⟨s0, s1⟩
         go_simp
         with_reducible rfl
       rotate_left
       · simp only [Act.put, List.setIfInBounds_toArray, List.set_cons_zero, List.set_cons_succ, i64_w, i32_w]
         rfl
       refine take_ (i := 1) (N := some 52) (v := ?_) (a' := ?_) #[true,true,false,false,false] rfl rfl zk (fun _ _ _ h => h) (Or.inl ⟨by rfl, ?_⟩) hHeld ?_ ?_
       rotate_left
       · rintro w' ⟨s0, s1⟩
         go_simp
         with_reducible rfl
       rotate_left
       · simp only [Act.put, List.setIfInBounds_toArray, List.set_cons_zero, List.set_cons_succ, i64_w, i32_w]
         rfl
       refine one_ (i := 2) (N := some 53) #[true,true,true,false,false] rfl rfl zk (by decide) (fun K hK => ?_)
       refine goes_ Tryd.func7 zk rfl #[.agg #[.slice A0_0 l0_0.length c0_0]] (by rfl) rfl rfl zA ?_
       with_reducible refine (laws_toGarden.calls kj10 _ _ l0_0 t121 _ ?side1 ?side2 A36.out).mono ?_
       (case side1 => exact zC (Kd.C_below HR0_0.out HB.out))
       (case side2 => exact HC0_0.out)
       rintro e w91 ⟨v122, rfl, ho0, hb⟩
       refine ⟨_, rfl, ?_⟩
       have n_ := y7 (Kd.R_elder' (zR HO_4.out) (Kd.R_base ho0) hb) (Kd.R_elder' (zR HO_8.out) (Kd.R_base ho0) hb) (Kd.R_elder' (zR HO_115000.out) (Kd.R_base ho0) hb) (Kd.R_lower (Kd.R_new' (Kd.R_new' (Kd.R_new' ho0 (Kd.R_lt (zR HO_4.out))) (Kd.R_lt (zR HO_8.out))) (Kd.R_lt (zR HO_115000.out))) (below_size (zB))) (zb BK101.out hb) (zb BK114.out hb) (below_step (zB) hb)
       clear HO_4 HO_8 HO_115000 BK101 BK114 HB
       obtain ⟨HO_4, HO_8, HO_115000, HO123, BK101, BK114, HB⟩ := n_
       (try clear hb)
       (try clear hb2)
       (try clear hk)
       (try clear hi)
       (try clear ho0)
       obtain ⟨Ao92, co92, eo92⟩ := Kd.R_slice HO123.out
       (first | subst eo92 | (injection eo92 with f1_ f2_ f3_; have f4_ := f1_.symm; have f5_ := f3_.symm; clear f1_ f2_ f3_; subst f4_; subst f5_))
       refine hK.out _ _ ⟨(blk_cell BK114.out 0).trans rfl, (blk_cell BK101.out 0).trans rfl⟩ (fun hHeld => ?_)
       clear hK K
       refine norm_ (a' := ?_) ?_ ?_
       rotate_left
       · show Act.put _ (some 53) _ = _
         simp only [Act.put, List.setIfInBounds_toArray, List.set_cons_zero, List.set_cons_succ, i64_w, i32_w]
         rfl
       refine one_ (i := 3) (N := some 54) #[true,true,true,true,false] rfl rfl zk (by decide) (fun K hK => ?_)
       refine goes_ Tryd.func10 zk rfl #[.agg #[.slice Ao22 t111.length co22], .agg #[.slice Ao92 t121.length co92]] (by rfl) rfl rfl zA ?_
       with_reducible refine (laws_eqGarden.calls kj10 _ _ t111 _ _ t121 false _ ?side1 ?side2 ?side3 ?side4 A37.out).mono ?_
       (case side1 => exact zC (Kd.R_reads' HO_115000.out).2.2)
       (case side2 => exact (Kd.R_reads' HO_115000.out).2.1)
       (case side3 => exact zC (Kd.R_reads' HO123.out).2.2)
       (case side4 => exact (Kd.R_reads' HO123.out).2.1)
       rintro e w93 ⟨rfl, hb⟩
       refine ⟨_, rfl, ?_⟩
       have n_ := y7 (Kd.R_below (zR HO_4.out) hb) (Kd.R_below (zR HO_8.out) hb) (Kd.R_below (zR HO_115000.out) hb) (Kd.R_below (zR HO123.out) hb) (zb BK101.out hb) (zb BK114.out hb) (below_step (zB) hb)
       clear HO_4 HO_8 HO_115000 HO123 BK101 BK114 HB
       obtain ⟨HO_4, HO_8, HO_115000, HO123, BK101, BK114, HB⟩ := n_
       (try clear hb)
       (try clear hb2)
       (try clear hk)
       (try clear hi)
       refine hK.out _ _ ⟨(blk_cell BK114.out 0).trans rfl, (blk_cell BK101.out 0).trans rfl⟩ (fun hHeld => ?_)
       clear hK K
       refine norm_ (a' := ?_) ?_ ?_
       rotate_left
       · show Act.put _ (some 54) _ = _
         simp only [Act.put, List.setIfInBounds_toArray, List.set_cons_zero, List.set_cons_succ, i64_w, i32_w]
         rfl
       refine pure_ (i := 4) (N := some 55) (v := ?_) (a' := ?_) #[true,true,true,true,true] rfl rfl zk (fun _ _ _ h => h) (Or.inl ⟨by rfl, ?_⟩) ?_ ?_
       rotate_left; exact zp; rotate_left; exact zq
       refine done_ zk ?_
       try go_wp2
       go_ret
       exact ⟨zE, zB⟩
/-- THE ONE PURE STATEMENT of laws_FnExactTurnsByHeight. -/
def laws_FnExactTurnsByHeight.Pure : Prop := ∀ (l0_0 : List Int), okRow (okInt .i64) l0_0 → ∃ k, laws_FnExactTurnsByHeight.f k l0_0 = some true
theorem laws_FnExactTurnsByHeight.walk (P : laws_FnExactTurnsByHeight.Pure) (A0_0 : Option Addr) (c0_0 : Nat) (l0_0 : List Int) (w : World) (hr0_0 : Kd.C (Kd.int .i64) w A0_0 l0_0.length l0_0) (hc0_0 : l0_0.length ≤ c0_0) (w0_0 : okRow (okInt .i64) l0_0) (ht : tabW w) :
    Calls Tryd.prog 4 #[.agg #[.slice A0_0 l0_0.length c0_0]] w fun e w' => e = .returned (.bool true) ∧ Below w.heap.size w w' := by
 obtain ⟨k, h⟩ := P l0_0 w0_0
 refine (laws_FnExactTurnsByHeight.calls k A0_0 c0_0 l0_0 true w hr0_0 hc0_0 h ht).mono ?_
 rintro e w' ⟨rfl, hd⟩
 exact ⟨rfl, hd⟩
end Go.Proofs.YtajfblkidneckaaDoor.P
end
section
namespace Go.Proofs.YtajfblkidneckaaDoor.Pure
open Go.RowKit Go.Proofs.YtajfblkidneckaaDoor.P Go.Proofs.YtajfblkidneckaaDoorW.PrintWords Go.Proofs.YtajfblkidneckaaDoorW.PrintLast Go.Proofs.YtajfblkidneckaaDoorW.PrintMore
set_option linter.unusedVariables false
set_option linter.unusedSimpArgs false
theorem ev_pos {α : Type} {c : Prop} [Decidable c] {A B : Nat → Option α} {r : α} (h : c) (e : Ev A r) : Ev (fun n => if c then A n else B n) r := Ev.congr (fun n => if_pos h) e
theorem ev_neg {α : Type} {c : Prop} [Decidable c] {A B : Nat → Option α} {r : α} (h : ¬ c) (e : Ev B r) : Ev (fun n => if c then A n else B n) r := Ev.congr (fun n => if_neg h) e
theorem ev_now {α : Type} (r : α) : Ev (fun _ => some r) r := Ev.now r
theorem ev_is {α : Type} {g : Option α} {r : α} (h : g = some r) : Ev (fun _ => g) r := by subst h; exact Ev.now r
theorem ev_bind {α β : Type} {g : Nat → Option α} {f : Nat → α → Option β} {a : α} {r : β} (h : Ev g a) (k : Ev (fun n => f n a) r) : Ev (fun n => (g n).bind (f n)) r := Ev.bind h k
theorem ev_fix {α β : Type} {g : Option α} {f : Nat → α → Option β} {a : α} {r : β} (h : g = some a) (k : Ev (fun n => f n a) r) : Ev (fun n => g.bind (f n)) r := by subst h; exact k
theorem ev_rounds {α : Type} {g : Nat → Option α} {r : α} (h : Ev g r) : ∃ k, g k = some r := h.rounds
theorem wrap_id {x : Int} (h1 : -9223372036854775808 ≤ x) (h2 : x ≤ 9223372036854775807) : wrap64 x = x := by unfold wrap64; omega
theorem wrap_succ {n : Nat} (h : n + 1 ≤ 9223372036854775807) : wrap64 ((n : Int) + 1) = ((n + 1 : Nat) : Int) := by rw [wrap_id (by omega) (by omega)]; omega
theorem rd_nat {l : List Int} {n : Nat} (h : n < l.length) : rd l (n : Int) = l[n] := by simp [rd, h]
end Go.Proofs.YtajfblkidneckaaDoor.Pure
end
section
namespace Go.Proofs.YtajfblkidneckaaDoor.P
open Go.RowKit Go.Proofs.YtajfblkidneckaaDoorW.PrintWords Go.Proofs.YtajfblkidneckaaDoorW.PrintLast Go.Proofs.YtajfblkidneckaaDoorW.PrintMore
attribute [local go_sem] max2_int min2_int max_two min_two max_three min_three max_four min_four   -- for this text's walks alone
set_option linter.unusedVariables false
set_option linter.unusedSimpArgs false
def impl_isTower.f (a0 : Int) : Option (Bool) := (impl_within.f a0 1 1000).bind fun t101 => (some t101)
end Go.Proofs.YtajfblkidneckaaDoor.P
end
section
namespace Go.Proofs.YtajfblkidneckaaDoor.Pure
open Go.RowKit Go.Proofs.YtajfblkidneckaaDoor.P Go.Proofs.YtajfblkidneckaaDoorW.PrintWords Go.Proofs.YtajfblkidneckaaDoorW.PrintLast Go.Proofs.YtajfblkidneckaaDoorW.PrintMore
set_option linter.unusedVariables false
set_option linter.unusedSimpArgs false
theorem l01In_f (n lo hi : Int) : spec_l01In.f n lo hi = some (decide (lo ≤ n ∧ n ≤ hi)) := by
  unfold spec_l01In.f
  by_cases h : n ≥ lo
  · rw [if_pos h]; simp [show lo ≤ n from h]
  · rw [if_neg h]; simp [show ¬ lo ≤ n from h]
theorem all_take_succ {α : Type} (p : α → Bool) (l : List α) (n : Nat) (h : n < l.length) : (l.take (n + 1)).all p = ((l.take n).all p && p l[n]) := by
  rw [List.take_succ_eq_append_getElem h, List.all_append]; simp
theorem all_false_at {α : Type} (p : α → Bool) (l : List α) (n : Nat) (h : n < l.length) (hp : p l[n] = false) : l.all p = false := by
  rw [Bool.eq_false_iff]
  intro ha
  rw [List.all_eq_true] at ha
  rw [ha _ (List.getElem_mem h)] at hp
  cases hp
end Go.Proofs.YtajfblkidneckaaDoor.Pure
end
section
namespace Go.Proofs.YtajfblkidneckaaDoor.Pure
open Go.RowKit Go.Proofs.YtajfblkidneckaaDoor.P Go.Proofs.YtajfblkidneckaaDoorW.PrintWords Go.Proofs.YtajfblkidneckaaDoorW.PrintLast Go.Proofs.YtajfblkidneckaaDoorW.PrintMore
set_option linter.unusedVariables false
set_option linter.unusedSimpArgs false
/-- the greatest of a list, and 0 -/
def great (l : List Int) : Int := l.foldl mx 0
theorem le_mx (a b : Int) : a ≤ mx a b ∧ b ≤ mx a b := by unfold mx; split <;> omega
theorem le_foldl_mx (l : List Int) : ∀ a, a ≤ l.foldl mx a ∧ ∀ x ∈ l, x ≤ l.foldl mx a := by
  induction l with
  | nil => intro a; simp
  | cons y l ih =>
    intro a
    have h := ih (mx a y)
    have h2 := le_mx a y
    simp only [List.foldl_cons]
    refine ⟨by omega, ?_⟩
    intro x hx
    rcases List.mem_cons.1 hx with rfl | hx
    · omega
    · exact h.2 x hx
theorem great_take_succ (l : List Int) (n : Nat) (h : n < l.length) : great (l.take (n + 1)) = mx (great (l.take n)) l[n] := by
  rw [List.take_succ_eq_append_getElem h, great, List.foldl_append]; rfl
theorem great_pos {l : List Int} {x : Int} (h : x ∈ l) : x ≤ great l := (le_foldl_mx l 0).2 x h
end Go.Proofs.YtajfblkidneckaaDoor.Pure
end
section
namespace Go.Proofs.YtajfblkidneckaaDoor.Pure
open Go.RowKit Go.Proofs.YtajfblkidneckaaDoor.P Go.Proofs.YtajfblkidneckaaDoorW.PrintWords Go.Proofs.YtajfblkidneckaaDoorW.PrintLast Go.Proofs.YtajfblkidneckaaDoorW.PrintMore
set_option linter.unusedVariables false
set_option linter.unusedSimpArgs false
def isGarden (l : List Int) : Bool := decide (1 ≤ (l.length : Int) ∧ (l.length : Int) ≤ 8) && l.all fun g => decide (1 ≤ g ∧ g ≤ 20)
theorem IsGarden_f (l : List Int) : impl_IsGarden.f l = some (isGarden l) := rfl
theorem isGarden_iff (l : List Int) : isGarden l = true ↔ (1 ≤ l.length ∧ l.length ≤ 8) ∧ (∀ x ∈ l, 1 ≤ x ∧ x ≤ 20) := by
  unfold isGarden
  rw [Bool.and_eq_true, List.all_eq_true, decide_eq_true_iff]
  simp only [decide_eq_true_iff]
  constructor
  · rintro ⟨h1, h2⟩; exact ⟨by omega, h2⟩
  · rintro ⟨h1, h2⟩; exact ⟨by omega, h2⟩
theorem l06Is_l0 (l : List Int) (hl : l.length ≤ 1048576) : ∀ d n : Nat, n + d = l.length → (l.take n).all (fun g => decide (1 ≤ g ∧ g ≤ 20)) = true → Ev (fun k => spec_l06Is.l0 k (n : Int) l) (isGarden l) := by
  intro d
  induction d with
  | zero =>
    intro n hn ha
    refine Ev.step (fun k => by rw [spec_l06Is.l0]) ?_
    refine ev_neg (by omega) ?_
    rw [List.take_of_length_le (by omega)] at ha
    by_cases h0 : (l.length : Int) > 0
    · refine ev_pos h0 (ev_is ?_)
      rw [isGarden, ha, Bool.and_true]
      congr 1
      rw [decide_eq_decide]
      omega
    · refine ev_neg h0 (ev_is ?_)
      rw [isGarden, decide_eq_false (by omega), Bool.false_and]
  | succ d ih =>
    intro n hn ha
    have hlt : n < l.length := by omega
    refine Ev.step (fun k => by rw [spec_l06Is.l0]) (ev_pos (by omega) (ev_pos (by omega) (ev_fix (l01In_f _ _ _) ?_)))
    rw [rd_nat hlt]
    cases hq : decide (1 ≤ l[n] ∧ l[n] ≤ 20) with
    | true =>
      refine ev_pos rfl ?_
      rw [wrap_succ (by omega)]
      exact ih (n + 1) (by omega) (by rw [all_take_succ _ _ _ hlt, ha, hq]; rfl)
    | false =>
      refine ev_neg (by simp) (ev_is ?_)
      rw [isGarden, all_false_at _ l n hlt hq, Bool.and_false]
theorem l06Is_ev (l : List Int) (hl : l.length ≤ 1048576) : Ev (fun k => spec_l06Is.f k l) (isGarden l) := by
  unfold spec_l06Is.f
  exact l06Is_l0 l hl l.length 0 (by omega) (by simp)
theorem gardenCode_f (l : List Int) (c : Bool) : impl_gardenCode.f l c = some (if isGarden l = true then (if c = true then 0 else 2) else 1) := by
  unfold impl_gardenCode.f
  rw [IsGarden_f, Option.bind_some]
  cases isGarden l <;> cases c <;> rfl
theorem l06Grow_l0 (R H : List Int) (a : Int) (hs : H.length ≤ 1048576) (hl : H.length ≤ R.length) : ∀ d n : Nat, n + d = H.length → Ev (fun k => spec_l06Grow.l0 k H a (grT (R.take n) (H.take n) a) (n : Int) R) (grT R H a) := by
  intro d
  induction d with
  | zero =>
    intro n hn
    refine Ev.step (fun k => by rw [spec_l06Grow.l0]) (ev_neg (by omega) (ev_is ?_))
    congr 1
    rw [List.take_of_length_le (l := H) (by omega)]
    unfold grT
    apply List.ext_getElem
    · simp; omega
    · intro i h1 h2
      simp
  | succ d ih =>
    intro n hn
    have h1 : n < H.length := by omega
    have h2 : n < R.length := by omega
    refine Ev.step (fun k => by rw [spec_l06Grow.l0]) (ev_pos (by omega) (ev_pos (by omega) (ev_pos (by omega) (ev_pos ?_ ?_))))
    · unfold grT
      simp
      omega
    rw [rd_nat h1, rd_nat h2, wrap_succ (by omega)]
    have ih := ih (n + 1) (by omega)
    rw [List.take_succ_eq_append_getElem h1, List.take_succ_eq_append_getElem h2] at ih
    have e : grT (R.take n ++ [R[n]]) (H.take n ++ [H[n]]) a = grT (R.take n) (H.take n) a ++ [wrap64 (H[n] + wrap64 (a * R[n]))] := by
      unfold grT
      rw [List.zipWith_append (by simp; omega), Int.mul_comm a]
      rfl
    rw [e] at ih
    exact ih
theorem l06Grow_ev (R H : List Int) (a : Int) (hs : H.length ≤ 1048576) (hl : H.length ≤ R.length) : Ev (fun k => spec_l06Grow.f k R H a) (grT R H a) := by
  unfold spec_l06Grow.f
  exact l06Grow_l0 R H a hs hl H.length 0 (by omega)
/-- the first highest plant -/
def hiI (H : List Int) : Int := (H.idxOf (great H) : Int)
theorem great_mem {l : List Int} (h0 : l ≠ []) (hp : ∀ x ∈ l, 0 ≤ x) : great l ∈ l := by
  have main : ∀ (l : List Int) (a : Int), l.foldl mx a = a ∨ l.foldl mx a ∈ l := by
    intro l
    induction l with
    | nil => intro a; exact .inl rfl
    | cons y l ih =>
      intro a
      rw [List.foldl_cons]
      rcases ih (mx a y) with h | h
      · rw [h]
        unfold mx
        split
        · exact .inr List.mem_cons_self
        · exact .inl rfl
      · exact .inr (List.mem_cons_of_mem _ h)
  rcases main l 0 with h | h
  · cases l with
    | nil => exact absurd rfl h0
    | cons y l =>
      have h1 := great_pos (l := y :: l) List.mem_cons_self
      have h2 := hp y List.mem_cons_self
      have h3 : great (y :: l) = 0 := h
      rw [h3] at h1
      have : y = 0 := by omega
      rw [h3, this]
      exact List.mem_cons_self
  · exact h
theorem hiI_rd {H : List Int} (h0 : H ≠ []) (hp : ∀ x ∈ H, 0 ≤ x) : 0 ≤ hiI H ∧ hiI H < (H.length : Int) ∧ rd H (hiI H) = great H := by
  have h := great_mem h0 hp
  have hlt : H.idxOf (great H) < H.length := List.idxOf_lt_length_iff.2 h
  refine ⟨by unfold hiI; omega, by unfold hiI; omega, ?_⟩
  rw [hiI, rd_nat hlt]
  exact List.getElem_idxOf hlt
theorem l06Highest_l0 (H : List Int) (hl : H.length ≤ 1048576) (hp : ∀ x ∈ H, 0 ≤ x) : ∀ d n : Nat, n + d = H.length → 1 ≤ n → Ev (fun k => spec_l06Highest.l0 k H (hiI (H.take n)) (n : Int)) (hiI H) := by
  intro d
  induction d with
  | zero =>
    intro n hn h1
    refine Ev.step (fun k => by rw [spec_l06Highest.l0]) (ev_neg (by omega) (ev_is ?_))
    rw [List.take_of_length_le (by omega)]
  | succ d ih =>
    intro n hn h1
    have hlt : n < H.length := by omega
    have hne : H.take n ≠ [] := by intro e; have := congrArg List.length e; rw [List.length_take] at this; simp only [List.length_nil] at this; omega
    have hpt : ∀ x ∈ H.take n, 0 ≤ x := fun x hx => hp x (List.mem_of_mem_take hx)
    obtain ⟨q0, q1, q2⟩ := hiI_rd hne hpt
    rw [List.length_take] at q1
    have hb : hiI (H.take n) < (n : Int) := by omega
    obtain ⟨b, hbb⟩ : ∃ b : Nat, hiI (H.take n) = b := ⟨(hiI (H.take n)).toNat, by omega⟩
    have e1 : rd H (hiI (H.take n)) = great (H.take n) := by
      rw [← q2, hbb, rd_nat (by omega), rd_nat (by rw [List.length_take]; omega)]
      simp
    have hg := great_take_succ H n hlt
    have ht := List.take_succ_eq_append_getElem hlt
    refine Ev.step (fun k => by rw [spec_l06Highest.l0]) (ev_pos (by omega) (ev_pos (by omega) (ev_pos (by omega) (ev_pos (by omega) ?_))))
    rw [e1, rd_nat hlt, wrap_succ (by omega)]
    have ih := ih (n + 1) (by omega) (by omega)
    by_cases h : H[n] > great (H.take n)
    · refine ev_pos h ?_
      have e2 : great (H.take (n + 1)) = H[n] := by rw [hg]; unfold mx; split <;> omega
      have e3 : hiI (H.take (n + 1)) = (n : Int) := by
        rw [hiI, e2, ht]
        have hno : H[n] ∉ H.take n := fun hm => by have := great_pos hm; omega
        rw [List.idxOf_append, if_neg hno]
        simp
        omega
      rw [e3] at ih
      exact ih
    · refine ev_neg h ?_
      have e2 : great (H.take (n + 1)) = great (H.take n) := by rw [hg]; unfold mx; split <;> omega
      have e3 : hiI (H.take (n + 1)) = hiI (H.take n) := by
        rw [hiI, e2, ht, List.idxOf_append, if_pos (great_mem hne hpt)]
        rfl
      rw [e3] at ih
      exact ih
theorem l06Highest_ev (H : List Int) (hl : H.length ≤ 1048576) (h0 : 1 ≤ H.length) (hp : ∀ x ∈ H, 0 ≤ x) : Ev (fun k => spec_l06Highest.f k H) (hiI H) := by
  unfold spec_l06Highest.f
  have := l06Highest_l0 H hl hp (H.length - 1) 1 (by omega) (by omega)
  have e : hiI (H.take 1) = 0 := by
    cases H with
    | nil => simp at h0
    | cons y l =>
      have hy := hp y List.mem_cons_self
      have : great [y] = y := by show mx 0 y = y; unfold mx; split <;> omega
      simp [hiI, this]
  rw [e] at this
  exact this
theorem l06Fastest_l0 (R H : List Int) (x : Int) (hs : H.length ≤ 1048576) (hl : H.length ≤ R.length) (r : Int) : ∀ (d n : Nat) (b : Int), n + d = H.length → (b = -1 ∨ (0 ≤ b ∧ b < (n : Int))) → speedT R x (H.drop n) (n : Int) b = r → Ev (fun k => spec_l06Fastest.l0 k H x b (n : Int) R) r := by
  intro d
  induction d with
  | zero =>
    intro n b hn hb hr
    refine Ev.step (fun k => by rw [spec_l06Fastest.l0]) (ev_neg (by omega) (ev_is ?_))
    rw [List.drop_of_length_le (by omega), speedT] at hr
    rw [hr]
  | succ d ih =>
    intro n b hn hb hr
    have hlt : n < H.length := by omega
    rw [drop_rdG hlt, speedT] at hr
    refine Ev.step (fun k => by rw [spec_l06Fastest.l0]) (ev_pos (by omega) (ev_pos (by omega) ?_))
    rw [wrap_succ (by omega)]
    have hc : ((n : Int) + 1) = ((n + 1 : Nat) : Int) := by omega
    rw [hc] at hr
    by_cases h1 : rd H (n : Int) ≥ x
    · refine ev_pos h1 ?_
      by_cases h2 : b < 0
      · have hb1 : b = -1 := by omega
        rw [if_pos ⟨h1, .inl hb1⟩] at hr
        exact ev_pos h2 (ih (n + 1) _ (by omega) (.inr ⟨by omega, by omega⟩) hr)
      · refine ev_neg h2 (ev_pos (by omega) (ev_pos (by omega) (ev_pos (by omega) ?_)))
        by_cases h3 : rd R (n : Int) > rd R b
        · rw [if_pos ⟨h1, .inr h3⟩] at hr
          exact ev_pos h3 (ih (n + 1) _ (by omega) (.inr ⟨by omega, by omega⟩) hr)
        · rw [if_neg (by rintro ⟨_, q | q⟩; omega; exact h3 q)] at hr
          exact ev_neg h3 (ih (n + 1) _ (by omega) (by omega) hr)
    · rw [if_neg (fun q => h1 q.1)] at hr
      exact ev_neg h1 (ih (n + 1) _ (by omega) (by omega) hr)
theorem l06Fastest_ev (R H : List Int) (x : Int) (hs : H.length ≤ 1048576) (hl : H.length ≤ R.length) : Ev (fun k => spec_l06Fastest.f k R H x) (speedT R x H 0 (-1)) := by
  unfold spec_l06Fastest.f
  exact l06Fastest_l0 R H x hs hl _ H.length 0 (-1) (by omega) (.inl rfl) rfl
end Go.Proofs.YtajfblkidneckaaDoor.Pure
end
section
namespace Go.Proofs.YtajfblkidneckaaDoor.Pure
set_option linter.unusedVariables false
set_option linter.unusedSimpArgs false
/-- the sum of f over the numbers below n -/
def sumN (f : Nat → Nat) : Nat → Nat
  | 0 => 0
  | n + 1 => sumN f n + f n
end Go.Proofs.YtajfblkidneckaaDoor.Pure
end
section
namespace Go.Proofs.YtajfblkidneckaaDoor.Pure
open Go.RowKit Go.Proofs.YtajfblkidneckaaDoor.P Go.Proofs.YtajfblkidneckaaDoorW.PrintWords Go.Proofs.YtajfblkidneckaaDoorW.PrintLast Go.Proofs.YtajfblkidneckaaDoorW.PrintMore
set_option linter.unusedVariables false
set_option linter.unusedSimpArgs false
theorem one_of (y : Int) : ∀ n, sumN (fun i => if y = (i : Int) then 1 else 0) n ≤ 1 ∧ ((n : Int) ≤ y → sumN (fun i => if y = (i : Int) then 1 else 0) n = 0)
  | 0 => ⟨Nat.zero_le _, fun _ => rfl⟩
  | n + 1 => by
    obtain ⟨h1, h2⟩ := one_of y n
    simp only [sumN]
    by_cases h : y = (n : Int)
    · rw [if_pos h, h2 (by omega)]
      exact ⟨Nat.le_refl _, fun q => by omega⟩
    · rw [if_neg h]
      exact ⟨h1, fun q => h2 (by omega)⟩
end Go.Proofs.YtajfblkidneckaaDoor.Pure
end
section
namespace Go.Proofs.YtajfblkidneckaaDoor.Pure
open Go.RowKit Go.Proofs.YtajfblkidneckaaDoor.P Go.Proofs.YtajfblkidneckaaDoorW.PrintWords Go.Proofs.YtajfblkidneckaaDoorW.PrintLast Go.Proofs.YtajfblkidneckaaDoorW.PrintMore
set_option linter.unusedVariables false
set_option linter.unusedSimpArgs false
def cdR (R : List Int) (ok : Bool) : Int := if isGarden R = true then (if ok = true then 0 else 2) else 1
theorem gcode_f (R : List Int) (c : Bool) : impl_gardenCode.f R c = some (cdR R c) := gardenCode_f R c
end Go.Proofs.YtajfblkidneckaaDoor.Pure
end
section
namespace Go.Proofs.YtajfblkidneckaaDoor.Pure
open Go.RowKit Go.Proofs.YtajfblkidneckaaDoor.P Go.Proofs.YtajfblkidneckaaDoorW.PrintWords Go.Proofs.YtajfblkidneckaaDoorW.PrintLast Go.Proofs.YtajfblkidneckaaDoorW.PrintMore
set_option linter.unusedVariables false
set_option linter.unusedSimpArgs false
theorem toInt64S_l0 (l : List Int) (hl : l.length ≤ 9223372036854775807) : ∀ d n : Nat, n + d = l.length → Ev (fun k => laws_toInt64S.l0 k l (l.take n ++ List.replicate d 0) (n : Int)) l := by
  intro d
  induction d with
  | zero =>
    intro n hn
    refine Ev.step (fun k => by rw [laws_toInt64S.l0]) ?_
    refine ev_neg (by omega) ?_
    rw [List.take_of_length_le (by omega), List.replicate_zero, List.append_nil]
    exact ev_now l
  | succ d ih =>
    intro n hn
    have hlt : n < l.length := by omega
    refine Ev.step (fun k => by rw [laws_toInt64S.l0]) ?_
    refine ev_pos (by omega) (ev_pos (by omega) (ev_pos ?_ ?_))
    · rw [List.length_append, List.length_take, List.length_replicate]; omega
    · rw [wrap_succ (by omega), rd_nat hlt, Int.toNat_natCast]
      have e : (l.take n ++ List.replicate (d + 1) 0).set n l[n] = l.take (n + 1) ++ List.replicate d 0 := by
        rw [List.set_append_right _ _ (by rw [List.length_take]; omega), List.length_take, Nat.min_eq_left (by omega), Nat.sub_self, List.replicate_succ, List.set_cons_zero, List.take_succ_eq_append_getElem hlt, List.append_assoc]
        rfl
      rw [e]
      exact ih (n + 1) (by omega)
/-- toInt64S hands back the list. -/
theorem toInt64S_ev (l : List Int) (hl : l.length ≤ 35184372088832) : Ev (fun k => laws_toInt64S.f k l) l := by
  unfold laws_toInt64S.f
  refine ev_pos (by omega) (ev_pos (by omega) ?_)
  rw [Int.toNat_natCast]
  exact toInt64S_l0 l (by omega) l.length 0 (by omega)
theorem eqInt64S_l0 (l : List Int) (hl : l.length ≤ 9223372036854775807) : ∀ d n : Nat, n + d = l.length → Ev (fun k => laws_eqInt64S.l0 k l l (n : Int)) true := by
  intro d
  induction d with
  | zero =>
    intro n hn
    refine Ev.step (fun k => by rw [laws_eqInt64S.l0]) ?_
    exact ev_neg (by omega) (ev_now true)
  | succ d ih =>
    intro n hn
    refine Ev.step (fun k => by rw [laws_eqInt64S.l0]) ?_
    refine ev_pos (by omega) (ev_pos (by omega) (ev_pos (by omega) (ev_pos rfl ?_)))
    rw [wrap_succ (by omega)]
    exact ih (n + 1) (by omega)
/-- eqInt64S says that a list is itself. -/
theorem eqInt64S_ev (l : List Int) (hl : l.length ≤ 9223372036854775807) : Ev (fun k => laws_eqInt64S.f k l l) true := by
  unfold laws_eqInt64S.f
  exact ev_pos rfl (eqInt64S_l0 l hl l.length 0 (by omega))
end Go.Proofs.YtajfblkidneckaaDoor.Pure
end
section
namespace Go.Proofs.YtajfblkidneckaaDoor.Pure
open Go.RowKit Go.Proofs.YtajfblkidneckaaDoor.P Go.Proofs.YtajfblkidneckaaDoorW.PrintWords Go.Proofs.YtajfblkidneckaaDoorW.PrintLast Go.Proofs.YtajfblkidneckaaDoorW.PrintMore
set_option linter.unusedVariables false
set_option linter.unusedSimpArgs false
/-- the numbers from m on -/
def upFrom (m : Int) : Nat → List Int
  | 0 => []
  | n + 1 => m :: upFrom (m + 1) n
theorem upFrom_length (n : Nat) : ∀ m, (upFrom m n).length = n := by
  induction n with
  | zero => intro m; rfl
  | succ n ih => intro m; simp [upFrom, ih]
theorem upFrom_get (n : Nat) : ∀ (m : Int) (j : Nat), j < n → (upFrom m n)[j]? = some (m + j) := by
  induction n with
  | zero => intro m j h; omega
  | succ n ih =>
    intro m j h
    cases j with
    | zero => simp [upFrom]
    | succ j => simp only [upFrom, List.getElem?_cons_succ]; rw [ih (m + 1) j (by omega)]; congr 1; omega
theorem upFrom_succ (n : Nat) (m : Int) : upFrom m (n + 1) = upFrom m n ++ [m + n] := by
  apply List.ext_getElem?
  intro j
  rcases Nat.lt_or_ge j n with h | h
  · rw [upFrom_get _ _ _ (by omega), List.getElem?_append_left (by rw [upFrom_length]; exact h), upFrom_get _ _ _ h]
  · rw [List.getElem?_append_right (by rw [upFrom_length]; exact h), upFrom_length]
    rcases Nat.eq_or_lt_of_le h with rfl | h
    · rw [upFrom_get _ _ _ (by omega)]; simp
    · rw [List.getElem?_eq_none (by rw [upFrom_length]; omega), List.getElem?_eq_none (by simp; omega)]
theorem markInt64S_l0 (l : List Int) (m : Int) (h0 : 0 ≤ m) (hl : m + l.length ≤ 9223372036854775807) : ∀ d n : Nat, n + d = l.length → Ev (fun k => laws_markInt64S.l0 k (upFrom m n ++ l.drop n) (m + n) (n : Int)) (m + l.length, upFrom m l.length) := by
  intro d
  induction d with
  | zero =>
    intro n hn
    refine Ev.step (fun k => by rw [laws_markInt64S.l0]) ?_
    refine ev_neg (by rw [List.length_append, upFrom_length, List.length_drop]; omega) ?_
    rw [List.drop_of_length_le (by omega), List.append_nil, show n = l.length by omega]
    exact ev_now _
  | succ d ih =>
    intro n hn
    have hlt : n < l.length := by omega
    refine Ev.step (fun k => by rw [laws_markInt64S.l0]) ?_
    refine ev_pos (by rw [List.length_append, upFrom_length, List.length_drop]; omega) (ev_pos (by omega) ?_)
    rw [wrap_succ (by omega), wrap_id (x := m + n + 1) (by omega) (by omega), Int.toNat_natCast]
    have e : (upFrom m n ++ l.drop n).set n (m + n) = upFrom m (n + 1) ++ l.drop (n + 1) := by
      rw [List.set_append_right _ _ (by rw [upFrom_length]; omega), upFrom_length, Nat.sub_self, List.drop_eq_getElem_cons hlt, List.set_cons_zero, upFrom_succ, List.append_assoc]
      rfl
    rw [e, show m + (n : Int) + 1 = m + ((n + 1 : Nat) : Int) by omega]
    exact ih (n + 1) (by omega)
theorem markInt64S_ev (l : List Int) (m : Int) (h0 : 0 ≤ m) (hl : m + l.length ≤ 9223372036854775807) : Ev (fun k => laws_markInt64S.f k l m) (m + l.length, upFrom m l.length) := by
  unfold laws_markInt64S.f
  have h := markInt64S_l0 l m h0 hl l.length 0 (by omega)
  simpa [upFrom] using h
theorem heldInt64S_l0 (m : Int) (h0 : 0 ≤ m) (N : Nat) (hl : m + N ≤ 9223372036854775807) : ∀ d n : Nat, n + d = N → Ev (fun k => laws_heldInt64S.l0 k (upFrom m N) (m + n) (n : Int)) (m + N) := by
  intro d
  induction d with
  | zero =>
    intro n hn
    refine Ev.step (fun k => by rw [laws_heldInt64S.l0]) ?_
    refine ev_neg (by rw [upFrom_length]; omega) ?_
    rw [show n = N by omega]
    exact ev_now _
  | succ d ih =>
    intro n hn
    refine Ev.step (fun k => by rw [laws_heldInt64S.l0]) ?_
    refine ev_pos (by rw [upFrom_length]; omega) (ev_pos (by omega) (ev_pos ?_ ?_))
    · have h := upFrom_get N m n (by omega)
      simp [rd, h]
    · rw [wrap_succ (by omega), wrap_id (x := m + n + 1) (by omega) (by omega), show m + (n : Int) + 1 = m + ((n + 1 : Nat) : Int) by omega]
      exact ih (n + 1) (by omega)
theorem heldInt64S_ev (m : Int) (h0 : 0 ≤ m) (N : Nat) (hl : m + N ≤ 9223372036854775807) : Ev (fun k => laws_heldInt64S.f k (upFrom m N) m) (m + N) := by
  unfold laws_heldInt64S.f
  have h := heldInt64S_l0 m h0 N hl N 0 (by omega)
  simpa using h
end Go.Proofs.YtajfblkidneckaaDoor.Pure
end
section
namespace Go.Proofs.YtajfblkidneckaaDoor.Pure
open Go.RowKit Go.Proofs.YtajfblkidneckaaDoor.P Go.Proofs.YtajfblkidneckaaDoorW.PrintWords Go.Proofs.YtajfblkidneckaaDoorW.PrintLast Go.Proofs.YtajfblkidneckaaDoorW.PrintMore
set_option linter.unusedVariables false
set_option linter.unusedSimpArgs false
theorem szInt64S_f (l : List Int) (a : Int) (hl : l.length ≤ maxLen) (ha : 0 ≤ a ∧ a ≤ 1048576) : ∃ r, laws_szInt64S.f l a = some r ∧ (r < 0 ∨ (0 ≤ r ∧ r ≤ a ∧ (l.length : Int) ≤ a)) := by
  unfold laws_szInt64S.f
  unfold maxLen at hl
  rw [wrap_id (by omega) (by omega)]
  by_cases h : a - (l.length : Int) < 0
  · exact ⟨-1, by rw [if_pos h], .inl (by omega)⟩
  · exact ⟨a - l.length, by rw [if_neg h], .inr (by omega)⟩
end Go.Proofs.YtajfblkidneckaaDoor.Pure
end
section
namespace Go.Proofs.YtajfblkidneckaaDoor.Pure
open Go.RowKit Go.Proofs.YtajfblkidneckaaDoor.P Go.Proofs.YtajfblkidneckaaDoorW.PrintWords Go.Proofs.YtajfblkidneckaaDoorW.PrintLast Go.Proofs.YtajfblkidneckaaDoorW.PrintMore
set_option linter.unusedVariables false
set_option linter.unusedSimpArgs false
theorem szGarden_f (l : List Int) (hl : l.length ≤ maxLen) : ∃ r, laws_szGarden.f l 1048576 = some r ∧ (r < 0 ∨ (0 ≤ r ∧ l.length ≤ 1048576)) := by
  unfold laws_szGarden.f
  obtain ⟨r1, e1, h1⟩ := szInt64S_f l 1048576 hl (by omega)
  rw [e1, Option.bind_some]
  rcases h1 with h1 | h1
  · exact ⟨-1, by rw [if_pos h1], .inl (by omega)⟩
  · exact ⟨r1, by rw [if_neg (by omega)], .inr (by omega)⟩
theorem toGarden_ev (l : List Int) (hl : l.length ≤ 1048576) : Ev (fun k => laws_toGarden.f k l) l := by
  unfold laws_toGarden.f
  exact ev_bind (toInt64S_ev l (by omega)) (ev_now _)
theorem eqGarden_ev (l : List Int) (hl : l.length ≤ 1048576) : Ev (fun k => laws_eqGarden.f k l l) true := by
  unfold laws_eqGarden.f
  exact ev_bind (eqInt64S_ev l (by omega)) (ev_pos rfl (ev_now _))
theorem markGarden_ev (l : List Int) (hl : l.length ≤ 1048576) : Ev (fun k => laws_markGarden.f k l 1) (1 + (l.length : Int), upFrom 1 l.length) := by
  unfold laws_markGarden.f
  exact ev_bind (markInt64S_ev l 1 (by omega) (by omega)) (ev_now _)
end Go.Proofs.YtajfblkidneckaaDoor.Pure
end
section
namespace Go.Proofs.YtajfblkidneckaaDoor.Pure
open Go.RowKit Go.Proofs.YtajfblkidneckaaDoor.P Go.Proofs.YtajfblkidneckaaDoorW.PrintWords Go.Proofs.YtajfblkidneckaaDoorW.PrintLast Go.Proofs.YtajfblkidneckaaDoorW.PrintMore
set_option linter.unusedVariables false
set_option linter.unusedSimpArgs false
theorem l01Own_f (l : List Int) (hl : l.length < 17592186044416) : spec_l01Own.f l = some l := by
  unfold spec_l01Own.f
  simp only [Option.bind_some, List.nil_append, List.length_nil, Nat.zero_add]
  rw [if_pos hl]
end Go.Proofs.YtajfblkidneckaaDoor.Pure
end
section
namespace Go.Proofs.YtajfblkidneckaaDoor.Pure
open Go.RowKit Go.Proofs.YtajfblkidneckaaDoor.P Go.Proofs.YtajfblkidneckaaDoorW.PrintWords Go.Proofs.YtajfblkidneckaaDoorW.PrintLast Go.Proofs.YtajfblkidneckaaDoorW.PrintMore
set_option linter.unusedVariables false
set_option linter.unusedSimpArgs false
theorem l06Same_l0 (a c : List Int) (hl : a.length ≤ 1048576) (he : a.length = c.length) : ∀ d n : Nat, n + d = a.length → a.take n = c.take n → Ev (fun k => spec_l06Same.l0 k a c (n : Int)) (decide (a = c)) := by
  intro d
  induction d with
  | zero =>
    intro n hn ht
    refine Ev.step (fun k => by rw [spec_l06Same.l0]) (ev_neg (by omega) (ev_is ?_))
    rw [List.take_of_length_le (by omega), List.take_of_length_le (by omega)] at ht
    rw [decide_eq_true ht]
  | succ d ih =>
    intro n hn ht
    have h1 : n < a.length := by omega
    have h2 : n < c.length := by omega
    refine Ev.step (fun k => by rw [spec_l06Same.l0]) (ev_pos (by omega) (ev_pos (by omega) (ev_pos (by omega) ?_)))
    rw [rd_nat h1, rd_nat h2, wrap_succ (by omega)]
    by_cases h : a[n] = c[n]
    · refine ev_pos h (ih (n + 1) (by omega) ?_)
      rw [List.take_succ_eq_append_getElem h1, List.take_succ_eq_append_getElem h2, ht, h]
    · refine ev_neg h (ev_is ?_)
      rw [decide_eq_false]
      intro e
      subst e
      exact h rfl
theorem l06Same_ev (a c : List Int) (hl : a.length ≤ 1048576) (he : a.length = c.length) : Ev (fun k => spec_l06Same.f k a c) (decide (a = c)) := by
  unfold spec_l06Same.f
  exact l06Same_l0 a c hl he a.length 0 (by omega) (by simp)
end Go.Proofs.YtajfblkidneckaaDoor.Pure
end
section
namespace Go.Proofs.YtajfblkidneckaaDoor.Pure
open Go.RowKit Go.Proofs.YtajfblkidneckaaDoor.P Go.Proofs.YtajfblkidneckaaDoorW.PrintWords Go.Proofs.YtajfblkidneckaaDoorW.PrintLast Go.Proofs.YtajfblkidneckaaDoorW.PrintMore
set_option linter.unusedVariables false
set_option linter.unusedSimpArgs false
def spR (r : List Int × Int × Int) : List Int × Int × Bool := if r.2.2 = 0 then (r.1, r.2.1, true) else ([], 0, false)
theorem seenT_some (R : List Int) (C : List Int → Int) (H : List Int) : ∀ n i, seenT R C n H = some i → i < n ∧ hAt R C i = H
  | 0, i, h => by cases h
  | n + 1, i, h => by
    rw [seenT] at h
    split at h
    · next e => cases h; exact ⟨Nat.lt_succ_self _, e⟩
    · obtain ⟨h1, h2⟩ := seenT_some R C H n i h
      exact ⟨Nat.lt_succ_of_lt h1, h2⟩
theorem seenT_none (R : List Int) (C : List Int → Int) (H : List Int) : ∀ n, seenT R C n H = none → ∀ i, i < n → hAt R C i ≠ H
  | 0, _, i, hi => by omega
  | n + 1, h, i, hi => by
    rw [seenT] at h
    split at h
    · cases h
    · next e =>
      by_cases h1 : i = n
      · rw [h1]; exact e
      · exact seenT_none R C H n h i (by omega)
theorem seenT_of_ne (R : List Int) (C : List Int → Int) (H : List Int) : ∀ n, (∀ i, i < n → hAt R C i ≠ H) → seenT R C n H = none
  | 0, _ => rfl
  | n + 1, h => by
    rw [seenT, if_neg (h n (Nat.lt_succ_self n))]
    exact seenT_of_ne R C H n (fun i hi => h i (by omega))
theorem roundL_form (R : List Int) (C : List Int → Int) : ∀ k n, n + k ≤ 200 → ((roundL R C k n).2.2 = 0 ∨ roundL R C k n = ([], 0, 3)) ∧ (roundL R C k n).1.length ≤ 200 := by
  intro k
  induction k with
  | zero =>
    intro n hn
    cases h : seenT R C n (hAt R C n) with
    | some i => rw [roundL_some h]; refine ⟨.inl rfl, ?_⟩; rw [List.length_drop, List.length_map, List.length_range]; omega
    | none => rw [roundL_none0 h]; exact ⟨.inr rfl, by simp⟩
  | succ k ih =>
    intro n hn
    cases h : seenT R C n (hAt R C n) with
    | some i => rw [roundL_some h]; refine ⟨.inl rfl, ?_⟩; rw [List.length_drop, List.length_map, List.length_range]; omega
    | none => rw [roundL_none h]; exact ih (n + 1) (by omega)
theorem grT_small {R H : List Int} {N : Int} (hN : 0 ≤ N ∧ N ≤ 100000) (hb : ∀ y ∈ R, 1 ≤ y ∧ y ≤ 20) (hH : ∀ z ∈ H, 0 ≤ z ∧ z ≤ N) : ∀ z ∈ grT R H 1, 0 ≤ z ∧ z ≤ N + 20 := by
  intro z hz
  unfold grT at hz
  obtain ⟨i, hi, rfl⟩ := List.getElem_of_mem hz
  rw [List.length_zipWith] at hi
  rw [List.getElem_zipWith]
  have q1 := hb R[i] (List.getElem_mem (by omega))
  have q2 := hH H[i] (List.getElem_mem (by omega))
  rw [Int.mul_one, wrap_id (x := R[i]) (by omega) (by omega), wrap_id (x := H[i] + R[i]) (by omega) (by omega)]
  omega
theorem hAt_small {R : List Int} (C : List Int → Int) (hb : ∀ y ∈ R, 1 ≤ y ∧ y ≤ 20) : ∀ n : Nat, n ≤ 300 → ∀ z ∈ hAt R C n, 0 ≤ z ∧ z ≤ 20 * (n : Int) := by
  intro n
  induction n with
  | zero => intro _ z hz; rw [hAt] at hz; rw [List.eq_of_mem_replicate hz]; omega
  | succ n ih =>
    intro hn z hz
    have hg := grT_small (N := 20 * (n : Int)) (by omega) hb (ih (by omega))
    rw [hAt, gstepT] at hz
    split at hz
    · have := hg z hz; omega
    · rcases List.mem_or_eq_of_mem_set hz with h | h
      · have := hg z h; omega
      · omega
theorem allAt_rd (R : List Int) (C : List Int → Int) (m j : Nat) (h : j < m) : rd_L1 ((List.range m).map (hAt R C)) (j : Int) = hAt R C j := by
  simp [rd_L1, h]
theorem RoundX_l1 (R : List Int) (x : Int) (C : List Int → Int) (n : Nat) (hn : n < 200) (hR : R.length ≤ 1000) (r : List Int × Int × Bool) (cuts : List Int) (hc : cuts = (List.range (n + 1)).map (cAt R C))
    (h : (∃ i, i ≤ n ∧ hAt R C i = hAt R C (n + 1) ∧ (∀ q, q < i → hAt R C q ≠ hAt R C (n + 1)) ∧ r = (cuts.drop i, (i : Int), true)) ∨ ((∀ q, q ≤ n → hAt R C q ≠ hAt R C (n + 1)) ∧ Ev (fun k => spec_l06Round.l0 k x ((List.range (n + 1)).map (hAt R C) ++ [hAt R C (n + 1)]) cuts ((n + 1 : Nat) : Int) R) r)) :
    ∀ d j : Nat, j + d = n + 1 → (∀ i, i ≤ n → hAt R C i = hAt R C (n + 1) → (∀ q, q < i → hAt R C q ≠ hAt R C (n + 1)) → j ≤ i) → Ev (fun k => spec_l06Round.l1 k x ((List.range (n + 1)).map (hAt R C)) cuts (n : Int) (hAt R C (n + 1)) (j : Int) R) r := by
  intro d
  induction d with
  | zero =>
    intro j hj hi
    refine Ev.step (fun k => by rw [spec_l06Round.l1]) (ev_neg (by omega) (ev_pos (by rw [List.length_map, List.length_range]; omega) ?_))
    rw [wrap_succ (by omega)]
    rcases h with ⟨i, h1, h2, h3, h4⟩ | ⟨_, h2⟩
    · have := hi i h1 h2 h3
      omega
    · exact h2
  | succ d ih =>
    intro j hj hi
    have hl1 := hAt_length R C j
    have hl2 := hAt_length R C (n + 1)
    refine Ev.step (fun k => by rw [spec_l06Round.l1]) (ev_pos (by omega) (ev_pos (by omega) (ev_pos (by rw [List.length_map, List.length_range]; omega) ?_)))
    rw [allAt_rd R C (n + 1) j (by omega), wrap_succ (by omega)]
    refine ev_bind (l06Same_ev (hAt R C j) (hAt R C (n + 1)) (by omega) (by omega)) ?_
    by_cases e : hAt R C j = hAt R C (n + 1)
    · rw [decide_eq_true e]
      refine ev_pos rfl ?_
      rcases h with ⟨i, h1, h2, h3, h4⟩ | ⟨h1, _⟩
      · have hji : j = i := by
          have q1 := hi i h1 h2 h3
          rcases Nat.lt_or_ge j i with q | q
          · exact absurd e (h3 j q)
          · omega
        subst hji
        refine ev_pos (by rw [hc, List.length_map, List.length_range]; omega) ?_
        rw [Int.toNat_natCast]
        refine ev_fix (l01Own_f _ (by rw [List.length_drop, hc, List.length_map, List.length_range]; omega)) (ev_is ?_)
        rw [h4]
      · exact absurd e (h1 j (by omega))
    · rw [decide_eq_false e]
      refine ev_neg (by simp) (ih (j + 1) (by omega) (fun i h1 h2 h3 => ?_))
      have := hi i h1 h2 h3
      rcases Nat.lt_or_ge j i with q | q
      · omega
      · have : j = i := by omega
        rw [this] at e
        exact absurd h2 e
theorem RoundX_l0 (R : List Int) (x : Int) (C : List Int → Int) (hR : 1 ≤ R.length ∧ R.length ≤ 1000) (hb : ∀ y ∈ R, 1 ≤ y ∧ y ≤ 20)
    (hC : ∀ t : List Int, t.length = R.length → (∀ z ∈ t, 0 ≤ z) → (C t = -1 ∨ (0 ≤ C t ∧ C t < (t.length : Int))) ∧ (if x > 0 then speedT R x t 0 (-1) else hiI t) = C t) :
    ∀ d n : Nat, n + d = 200 → (∀ a b, a < b → b ≤ n → hAt R C a ≠ hAt R C b) → Ev (fun k => spec_l06Round.l0 k x ((List.range (n + 1)).map (hAt R C)) ((List.range n).map (cAt R C)) (n : Int) R) (spR (roundL R C d n)) := by
  intro d
  induction d with
  | zero =>
    intro n hn hd
    have hs := seenT_of_ne R C (hAt R C n) n (fun i hi => hd i n hi (Nat.le_refl _))
    rw [roundL_none0 hs]
    refine Ev.step (fun k => by rw [spec_l06Round.l0]) ?_
    refine ev_neg (by omega) ?_
    exact ev_is rfl
  | succ d ih =>
    intro n hn hd
    have hs := seenT_of_ne R C (hAt R C n) n (fun i hi => hd i n hi (Nat.le_refl _))
    rw [roundL_none hs]
    have hl := hAt_length R C n
    have hgl := grT_length (R := R) (H := hAt R C n) 1 hl
    have hgn := grT_small (N := 20 * (n : Int)) (by omega) hb (hAt_small C hb n (by omega))
    obtain ⟨hc1, hc2⟩ := hC (grT R (hAt R C n) 1) hgl (fun z hz => (hgn z hz).1)
    have hg := l06Grow_ev R (hAt R C n) 1 (by omega) (by omega)
    have hh := l06Highest_ev (grT R (hAt R C n) 1) (by omega) (by omega) (fun z hz => (hgn z hz).1)
    have hf := l06Fastest_ev R (grT R (hAt R C n) 1) x (by omega) (by omega)
    have hst : hAt R C (n + 1) = gstepT R C (hAt R C n) := rfl
    have hcc : (List.range n).map (cAt R C) ++ [C (grT R (hAt R C n) 1)] = (List.range (n + 1)).map (cAt R C) := by rw [List.range_succ, List.map_append]; rfl
    have hal : (List.range (n + 1)).map (hAt R C) ++ [hAt R C (n + 1)] = (List.range (n + 2)).map (hAt R C) := by rw [List.range_succ (n := n + 1), List.map_append]; rfl
    have next : Ev (fun k => spec_l06Round.j2 k x ((List.range (n + 1)).map (hAt R C)) ((List.range n).map (cAt R C)) (n : Int) (hAt R C (n + 1)) (C (grT R (hAt R C n) 1)) R) (spR (roundL R C d (n + 1))) := by
      refine Ev.step (fun k => by rw [spec_l06Round.j2]) (ev_pos (by rw [List.length_map, List.length_range]; omega) ?_)
      rw [hcc]
      refine RoundX_l1 R x C n (by omega) hR.2 _ _ rfl ?_ (n + 1) 0 (by omega) (fun i _ _ _ => Nat.zero_le _)
      cases hq : seenT R C (n + 1) (hAt R C (n + 1)) with
      | some i =>
        obtain ⟨h1, h2⟩ := seenT_some R C _ _ _ hq
        refine .inl ⟨i, by omega, h2, fun q hqi => ?_, ?_⟩
        · rw [← h2]
          exact hd q i hqi (by omega)
        · rw [roundL_some hq]
          rfl
      | none =>
        have h1 := seenT_none R C _ _ hq
        refine .inr ⟨fun q hqn => h1 q (by omega), ?_⟩
        rw [hal]
        refine ih (n + 1) (by omega) (fun a b hab hbn => ?_)
        by_cases hbe : b = n + 1
        · rw [hbe]
          exact h1 a (by omega)
        · exact hd a b hab (by omega)
    have cut : Ev (fun k => spec_l06Round.j1 k x ((List.range (n + 1)).map (hAt R C)) ((List.range n).map (cAt R C)) (n : Int) (grT R (hAt R C n) 1) (C (grT R (hAt R C n) 1)) R) (spR (roundL R C d (n + 1))) := by
      rw [hst, gstepT] at next
      refine Ev.step (fun k => by rw [spec_l06Round.j1]) ?_
      rcases hc1 with h | h
      · rw [if_pos h] at next
        exact ev_neg (by omega) next
      · rw [if_neg (by omega)] at next
        exact ev_pos (by omega) (ev_pos (by omega) (ev_pos (by omega) next))
    refine Ev.step (fun k => by rw [spec_l06Round.l0]) (ev_pos (by omega) (ev_pos (by omega) (ev_pos (by rw [List.length_map, List.length_range]; omega) ?_)))
    rw [allAt_rd R C (n + 1) n (by omega)]
    refine ev_bind hg (ev_bind hh ?_)
    by_cases hx : x > 0
    · rw [if_pos hx] at hc2
      rw [hc2] at hf
      exact ev_pos hx (ev_bind hf cut)
    · rw [if_neg hx] at hc2
      rw [hc2]
      exact ev_neg hx cut
theorem RoundX_ev (R : List Int) (x : Int) (C : List Int → Int) (hR : 1 ≤ R.length ∧ R.length ≤ 1000) (hb : ∀ y ∈ R, 1 ≤ y ∧ y ≤ 20)
    (hC : ∀ t : List Int, t.length = R.length → (∀ z ∈ t, 0 ≤ z) → (C t = -1 ∨ (0 ≤ C t ∧ C t < (t.length : Int))) ∧ (if x > 0 then speedT R x t 0 (-1) else hiI t) = C t) :
    Ev (fun k => spec_l06Round.f k R x) (spR (roundL R C 200 0)) := by
  unfold spec_l06Round.f
  refine ev_pos (by omega) (ev_pos (by omega) ?_)
  rw [Int.toNat_natCast]
  exact RoundX_l0 R x C hR hb hC 200 0 (by omega) (fun a b h1 h2 => by omega)
theorem spR_back (R : List Int) (C : List Int → Int) : (if (spR (roundL R C 200 0)).2.2 = true then ((spR (roundL R C 200 0)).1, (spR (roundL R C 200 0)).2.1, (0 : Int)) else ([], 0, 3)) = roundL R C 200 0 := by
  obtain ⟨h, _⟩ := roundL_form R C 200 0 (by omega)
  rcases h with h | h
  · unfold spR
    rw [if_pos h, if_pos rfl]
    generalize roundL R C 200 0 = r at h
    obtain ⟨a, b, c⟩ := r
    simp only at h
    rw [h]
  · rw [h]
    rfl
end Go.Proofs.YtajfblkidneckaaDoor.Pure
end
section
namespace Go.Proofs.YtajfblkidneckaaDoor.Pure
open Go.RowKit Go.Proofs.YtajfblkidneckaaDoor.P Go.Proofs.YtajfblkidneckaaDoorW.PrintWords Go.Proofs.YtajfblkidneckaaDoorW.PrintLast Go.Proofs.YtajfblkidneckaaDoorW.PrintMore
set_option linter.unusedVariables false
set_option linter.unusedSimpArgs false
def thR (R : List Int) : List Int × Int × Int := if isGarden R = true then roundL R highC 200 0 else ([], 0, 1)
theorem thR_length (R : List Int) : (thR R).1.length ≤ 200 := by
  unfold thR
  split
  · exact (roundL_form R _ 200 0 (by omega)).2
  · simp
theorem TurnsByHeight_impl (R : List Int) : impl_TurnsByHeight.f R = some (thR R) := by
  unfold impl_TurnsByHeight.f thR
  rw [gcode_f, Option.bind_some]
  unfold cdR
  by_cases hg : isGarden R = true
  · have h8 := ((isGarden_iff R).1 hg).1
    rw [if_pos hg, if_pos hg, if_pos rfl, if_pos rfl, if_pos (by omega)]
  · rw [if_neg hg, if_neg hg]
    rfl
theorem great_top (t : List Int) (h0 : 0 < t.length) (hz : ∀ z ∈ t, 0 ≤ z) : great t = topB t := by
  cases t with
  | nil => simp at h0
  | cons a l =>
    have ha := hz a (by simp)
    have e : mx 0 a = a := by unfold mx; split <;> omega
    show (a :: l).foldl mx 0 = ((a :: l).drop 1).foldl mx (rd (a :: l) 0)
    rw [List.foldl_cons, e]
    rfl
theorem TurnsByHeight_spec (R : List Int) (hl : R.length ≤ 1048576) : Ev (fun k => spec_TurnsByHeight.f k R) (thR R) := by
  unfold spec_TurnsByHeight.f thR
  refine ev_bind (l06Is_ev R hl) ?_
  cases hg : isGarden R with
  | false => exact ev_neg (by simp) (ev_now _)
  | true =>
    rw [if_pos rfl]
    obtain ⟨h8, hb⟩ := (isGarden_iff R).1 hg
    refine ev_pos rfl (ev_bind (RoundX_ev R 0 highC (by omega) hb (fun t ht hz => ⟨.inr (highC_in t (by omega)), ?_⟩)) ?_)
    · rw [if_neg (by omega)]
      unfold hiI highC
      rw [great_top t (by omega) hz]
    · have := spR_back R highC
      by_cases h : (spR (roundL R highC 200 0)).2.2 = true
      · rw [if_pos h] at this
        refine ev_pos h (ev_is ?_)
        rw [this]
      · rw [if_neg h] at this
        refine ev_neg h (ev_is ?_)
        rw [this]
theorem TurnsByHeight_j2 (N : Nat) (hN : 1 + (N : Int) ≤ 9223372036854775807) : Ev (fun k => laws_FnExactTurnsByHeight.j2 k (upFrom 1 N) (1 + N) false) true := by
  refine Ev.step (fun k => by rw [laws_FnExactTurnsByHeight.j2]) ?_
  refine ev_neg (by simp) (ev_bind (heldInt64S_ev 1 (by omega) N hN) ?_)
  exact ev_neg (by omega) (ev_pos rfl (ev_now _))
theorem TurnsByHeight_j1 (l : List Int) (hl : l.length ≤ 1048576) : Ev (fun k => laws_FnExactTurnsByHeight.j1 k (thR l).1 (thR l).2.1 (thR l).2.2 (thR l).1 false l) true := by
  have hr := thR_length l
  refine Ev.step (fun k => by rw [laws_FnExactTurnsByHeight.j1]) ?_
  refine ev_neg (by simp) (ev_bind (markInt64S_ev _ 1 (by omega) (by omega)) (ev_bind (heldInt64S_ev 1 (by omega) _ (by omega)) ?_))
  refine ev_neg (by omega) (ev_pos rfl (ev_bind (toGarden_ev l hl) (ev_fix (TurnsByHeight_impl l) (ev_bind (eqInt64S_ev _ (by omega)) (ev_pos rfl (ev_pos rfl ?_))))))
  rw [bne_self_eq_false]
  exact TurnsByHeight_j2 _ (by omega)
theorem TurnsByHeight_j0 (l : List Int) (hl : l.length ≤ 1048576) : Ev (fun k => laws_FnExactTurnsByHeight.j0 k (thR l).1 (thR l).2.1 (thR l).2.2 (thR l).1 (thR l).2.1 (thR l).2.2 false l l) true := by
  have hr := thR_length l
  refine Ev.step (fun k => by rw [laws_FnExactTurnsByHeight.j0]) ?_
  refine ev_neg (by simp) (ev_bind (toGarden_ev l hl) (ev_bind (eqGarden_ev l hl) (ev_pos rfl (ev_bind (markGarden_ev l hl) ?_))))
  refine ev_neg (by omega) (ev_bind (eqInt64S_ev _ (by omega)) (ev_pos rfl (ev_pos rfl ?_)))
  rw [bne_self_eq_false]
  exact TurnsByHeight_j1 l hl
theorem FnExactTurnsByHeight : laws_FnExactTurnsByHeight.Pure := by
  intro l hl0
  refine ev_rounds (g := fun k => laws_FnExactTurnsByHeight.f k l) ?_
  unfold laws_FnExactTurnsByHeight.f
  obtain ⟨r, hr, h⟩ := szGarden_f l hl0.1
  refine ev_fix hr ?_
  rcases h with h | ⟨h0, hl⟩
  · exact ev_pos h (ev_now _)
  · have hr := thR_length l
    refine ev_neg (by omega) (ev_bind (toGarden_ev l hl) (ev_bind (TurnsByHeight_spec l hl) (ev_bind (toGarden_ev l hl) (ev_fix (TurnsByHeight_impl l) (ev_bind (eqInt64S_ev _ (by omega)) (ev_pos rfl (ev_pos rfl ?_)))))))
    rw [bne_self_eq_false]
    exact TurnsByHeight_j0 l hl
end Go.Proofs.YtajfblkidneckaaDoor.Pure
end
section
namespace Go.Proofs.YtajfblkidneckaaDoor.fnExactTurnsByHeight
open Go.ChangeShapes Go.WideShapes Go.ChangeAt Go.RowKit Go.Deep Go.Proofs.YtajfblkidneckaaDoor.P
open Go.ChangeMaps (open_string shut_string)
set_option linter.unusedVariables false
theorem own : ownKnob Tryd.prog.godebug = none := by kernel_rfl
theorem laidOut : laidOutB Tryd.prog = true := by kernel_rfl
theorem door_met (os : Os) (args : Array Value) : laidMetH Tryd.prog Rows.fnExactTurnsByHeightRow.laid ((World.doorLaid Tryd.prog 400 os).forCall (fun _ _ => 0) ⟨#[], args, []⟩).memory :=
  laidMetH_of_parts3 (fuel := 8) (laidMet_of_run' 8 (by kernel_rfl) (by kernel_rfl)) (by kernel_rfl) (by kernel_rfl)
theorem tab_of {W : World} (h : laidMetH Tryd.prog Rows.fnExactTurnsByHeightRow.laid W) : P.tabW W := by
  rw [MakeChecks.laidMetH_plain _ _ _ (by kernel_rfl)] at h
  have h1 := laidMet.filter (fun x => x.1 == "internal/strconv.uint64pow10") h
  have e : (Rows.fnExactTurnsByHeightRow.laid.filter fun x => x.1 == "internal/strconv.uint64pow10") = [("internal/strconv.uint64pow10", Lib.tabData .u64 Lib.pow10Tab)] := by kernel_rfl
  rw [e] at h1
  exact Lib.tabIs_of_head (g := 0) (t := 88) (e := 78) (n := 20) (by kernel_rfl) (by kernel_rfl) Tryd.underlying88 Tryd.underlying78 (by kernel_rfl) (by kernel_rfl) h1
set_option maxRecDepth 100000 in
theorem lifted (os : Os) (started : os.Started) (H : Type) (enc : TypeId × Value → H) :
    ReturnsInHanded {} Tryd.checked os 4 .any (fun w args => (Rows.fnExactTurnsByHeightSpec.pre enc Tryd.prog Tryd.f4 [] false w args ∧ laidMetH Tryd.prog Rows.fnExactTurnsByHeightRow.laid w) ∧ sizedMet enc Tryd.prog Tryd.f4 (OpenSpec.ofChange Rows.fnExactTurnsByHeightSpec) false w args) (Rows.fnExactTurnsByHeightSpec.post enc Tryd.prog Tryd.f4 false true false false) := by
  refine returnsInHanded_of_change_and (C := Tryd.checked) (X := fun w _ => laidMetH Tryd.prog Rows.fnExactTurnsByHeightRow.laid w) (fun _ _ _ hh h => h.of_heap hh) own started (by kernel_rfl) Tryd.func4
    (ChangeSpec.witness_shaped (enc := enc) (C := Tryd.checked) (os := os) (X := fun w _ => laidMetH Tryd.prog Rows.fnExactTurnsByHeightRow.laid w) false (World.doorLaid Tryd.prog 400 os) #[.agg #[.slice none 0 0]] 8 rfl (World.shaped_of_RefB (by kernel_rfl) (by kernel_rfl)) (by kernel_rfl) (by kernel_rfl) (by kernel_rfl) (door_met os _)) ?_
  intro W base args ds gs before hval0 hW hcnd hsz0 hL_ _
  have hsz : (DataW.weightsEach Tryd.prog (Tryd.f4.params.toList ++ Rows.fnExactTurnsByHeightSpec.plain.varTypes Tryd.prog) (ds ++ gs)).all (· ≤ reachBytes) = true := hsz0
  have hval : ∀ (j : Nat) t v, Tryd.f4.params[j]? = some t → args[j]? = some v → Value.okWide Tryd.prog W .any base t v := hval0
  have hW' := hW
  obtain ⟨p, q, hA0, hV, rfl, hfz, hnd⟩ := hW
  have hA : DataW.TrodAll enc Tryd.prog W 0 (fun _ => true) true Tryd.f4.params.toList args.toList ds p := hA0
  rw [Tryd.params4] at hA hval hsz
  obtain ⟨v0, vs0, d0, ds0, p0, q0, hargs, rfl, rfl, h0, r0⟩ := trodAll_cons hA
  obtain ⟨rfl, rfl, rfl⟩ := trodAll_nil r0
  obtain rfl : args = #[v0] := by cases args; simp_all
  obtain ⟨rfl, rfl⟩ := trodVars_none hV
  have k0 := h0
  have lt0 : ∀ x ∈ p0, x.block < W.heap.size := by obtain ⟨m, hm⟩ := k0; exact DataW.trod_lt m _ _ _ hm
  obtain ⟨v0_0, y0_0, n0, rfl, t0_0⟩ := agg1 Tryd.underlying24 (by kernel_rfl) (by kernel_rfl) (hval 0 24 v0 rfl rfl) h0
  obtain ⟨l0_0, e0_0, w0_0⟩ := open_cell (opens_slice (opens_int Tryd.underlying2) Tryd.underlying22 (by kernel_rfl) rfl) t0_0
  obtain ⟨A0_0, c0_0, rfl, hc0_0, hr0_0⟩ := row_cell e0_0
  clear hA0 hval0 hsz0 hsz
  refine (P.laws_FnExactTurnsByHeight.walk Pure.FnExactTurnsByHeight A0_0 c0_0 l0_0 W hr0_0 hc0_0 w0_0 (tab_of hL_)).mono fun e W' ⟨he, bel⟩ => ?_
  subst he
  exact ⟨_, rfl, _, _, _, [], _, [], hW', trodAll_mk1 (shut_bool Tryd.underlying4 _), (trodAll_cons_mk (Below.trod laidOut (by kernel_rfl) (of_decide_eq_true (by kernel_rfl)) k0 bel lt0) trodAll_mk0), rfl, bel.frame _, fun h => by cases h⟩
theorem over : Rows.fnExactTurnsByHeightRow.holds Tryd.pinned (OpenSpec.ofChange Rows.fnExactTurnsByHeightSpec) :=
  OpenClaim.holds_of_wide 4 Tryd.f4 rfl rfl rfl rfl rfl rfl rfl ⟨rfl, rfl, rfl, rfl, rfl⟩ rfl rfl rfl rfl rfl (by kernel_rfl) Tryd.func4 (by kernel_rfl)
    (of_decide_eq_true (by kernel_rfl)) (by unfold Func.isWrapper; first | (rw [if_pos (by decide +kernel)]; kernel_rfl) | (rw [if_neg (by decide +kernel)]; exact ⟨rfl, rfl⟩))
    (fun os started H enc _ => lifted os started H enc)
theorem proved : Rows.FnExactTurnsByHeightSaid := over
theorem card : Rows.FnExactTurnsByHeightCardSaid :=
  Claim7.holds_tied_plain_at .later [] [.data, .data, .data] true (true, "7734b779d040b537b1c57ac1d1b83314088641aed3465db043fd53d832fdc6a8") false
    proved (fun _ h => by cases h) (by kernel_rfl) (fun _ h => by cases h) fnExactTurnsByHeight_row_tie rfl ⟨rfl, rfl⟩ (by kernel_rfl) rfl
    (fun f fn hf hfn => by
      obtain rfl : f = 4 := Option.some.inj ((show Tryd.prog.funcNamed "loop.example/g01404/laws.FnExactTurnsByHeight" = some 4 by kernel_rfl).symm.trans hf) |>.symm
      obtain rfl : fn = Tryd.f4 := (Option.some.inj (Tryd.func4.symm.trans hfn)).symm
      exact ⟨by kernel_rfl, fun j t ht => by
        rw [Tryd.params4] at ht
        have hm : t ∈ [24] := by simpa using Array.mem_of_getElem? ht
        have hall : ([24].all fun u => !Tryd.prog.wantsStandIn u) = true := by kernel_rfl
        exact (show Tryd.prog.wantsStandIn t = false by simpa using List.all_eq_true.1 hall t hm)⟩)
    (by kernel_rfl)
end Go.Proofs.YtajfblkidneckaaDoor.fnExactTurnsByHeight
namespace Go.Proofs.YtajfblkidneckaaDoor
/-- The row, under a short name, for the claim. -/
theorem fnExactTurnsByHeight_holds : Rows.FnExactTurnsByHeightCardSaid := fnExactTurnsByHeight.card
end Go.Proofs.YtajfblkidneckaaDoor
end
