/- Towers are at least the sum of the rates, and heights are those that cuts leave. -/
import Derived.Test.YtgmciimgmnnhmaaCFnGardens6
section
namespace Go.Proofs.Ytgmciimgmnnhmaa.P
open Go.RowKit Go.Proofs.YtgmciimgmnnhmaaW.PrintWords Go.Proofs.YtgmciimgmnnhmaaW.PrintLast Go.Proofs.YtgmciimgmnnhmaaW.PrintMore
attribute [local go_sem] max2_int min2_int max_two min_two max_three min_three max_four min_four   -- for this text's walks alone
set_option linter.unusedVariables false
set_option linter.unusedSimpArgs false
set_option maxHeartbeats 8000000 in
set_option maxRecDepth 100000 in
theorem laws_FnGardens.calls (k : Nat) (A0 : Option Addr) (c0 : Nat) (l0 : List Int) (r : Bool) (w : World) (hr0 : Kd.C (Kd.int .u8) w A0 l0.length l0) (hc0 : l0.length ≤ c0) (h : laws_FnGardens.f k l0 = some r) :
    Calls Try.prog 3 #[.slice A0 l0.length c0] w fun e w' => e = .returned (.bool r) ∧ Below w.heap.size w w' := by
 have hu26 := Try.underlying26
 have HR0 := Aside0.mk hr0
 have HC0 := Aside0.mk hc0
 clear hr0 hc0
 have HB := Aside0.mk (Below.refl w.heap.size w)
 have H : ((laws_big.f l0).bind fun t101 => (if t101 = true then (some true) else ((spec_DrawTowerOf.f k l0).bind fun bt102 => ((impl_TowerOf.f k bt102.1 bt102.2).bind fun bt109 => ((spec_TowerOf.f k bt102.1 bt102.2).bind fun bt111 => (if bt109.2 = bt111.2 then (laws_FnGardens.j0 k l0 bt109.1 bt109.2 (bt109.1 != bt111.1) bt102.1) else (laws_FnGardens.j0 k l0 bt109.1 bt109.2 true bt102.1))))))) = some r := h
 clear h
 replace H := Option.bind_eq_some_iff.mp H
 obtain ⟨t101, A20, H⟩ := H
 replace H : (if t101 = true then (some true) else ((spec_DrawTowerOf.f k l0).bind fun bt102 => ((impl_TowerOf.f k bt102.1 bt102.2).bind fun bt109 => ((spec_TowerOf.f k bt102.1 bt102.2).bind fun bt111 => (if bt109.2 = bt111.2 then (laws_FnGardens.j0 k l0 bt109.1 bt109.2 (bt109.1 != bt111.1) bt102.1) else (laws_FnGardens.j0 k l0 bt109.1 bt109.2 true bt102.1)))))) = some r := H
 have A2 := Aside0.mk A20
 clear A20
 by_cases c3 : t101 = true
 ·
  subst c3
  have H1 : (some true) = some r := by rw [if_pos rfl] at H; exact H
  clear H
  have H := H1
  clear H1
  obtain rfl := Option.some.inj H
  go_enter Try.func3, Try.ntmps3
  go_wp2_with (first | ((with_reducible refine gate_callee (f := 4) rfl ?_); refine goesL_ (some 39) rfl rfl Try.func4 zk rfl #[.slice A0 l0.length c0] rfl zA ?_; (with_reducible refine (laws_big.calls _ _ l0 true _ ?side1 ?side2 A2.out).mono ?_); (case side1 => exact zC HR0.out); (case side2 => exact HC0.out); rintro e w' ⟨rfl, ⟨nd, rfl⟩⟩; refine ⟨_, rfl, ?_⟩))
  go_ret
  exact ⟨zE, zB⟩
 replace c3 := Bool.eq_false_iff.mpr c3
 subst c3
 have H1 : ((spec_DrawTowerOf.f k l0).bind fun bt102 => ((impl_TowerOf.f k bt102.1 bt102.2).bind fun bt109 => ((spec_TowerOf.f k bt102.1 bt102.2).bind fun bt111 => (if bt109.2 = bt111.2 then (laws_FnGardens.j0 k l0 bt109.1 bt109.2 (bt109.1 != bt111.1) bt102.1) else (laws_FnGardens.j0 k l0 bt109.1 bt109.2 true bt102.1))))) = some r := by rw [if_neg (show ¬ (false = true) by decide)] at H; exact H
 clear H
 have H := H1
 clear H1
 replace H := Option.bind_eq_some_iff.mp H
 obtain ⟨⟨t102, t105⟩, A40, H⟩ := H
 replace H : ((impl_TowerOf.f k t102 t105).bind fun bt109 => ((spec_TowerOf.f k t102 t105).bind fun bt111 => (if bt109.2 = bt111.2 then (laws_FnGardens.j0 k l0 bt109.1 bt109.2 (bt109.1 != bt111.1) t102) else (laws_FnGardens.j0 k l0 bt109.1 bt109.2 true t102)))) = some r := H
 have A4 := Aside0.mk A40
 clear A40
 replace H := Option.bind_eq_some_iff.mp H
 obtain ⟨⟨t109, t110⟩, A50, H⟩ := H
 replace H : ((spec_TowerOf.f k t102 t105).bind fun bt111 => (if t110 = bt111.2 then (laws_FnGardens.j0 k l0 t109 t110 (t109 != bt111.1) t102) else (laws_FnGardens.j0 k l0 t109 t110 true t102))) = some r := H
 have A5 := Aside0.mk A50
 clear A50
 replace H := Option.bind_eq_some_iff.mp H
 obtain ⟨⟨t111, t112⟩, A60, H⟩ := H
 replace H : (if t110 = t112 then (laws_FnGardens.j0 k l0 t109 t110 (t109 != t111) t102) else (laws_FnGardens.j0 k l0 t109 t110 true t102)) = some r := H
 have A6 := Aside0.mk A60
 clear A60
 have HC7 := Aside0.mk H
 clear H
 go_enter Try.func3, Try.ntmps3
 go_upto_region 6 with (first | ((with_reducible refine gate_callee (f := 4) rfl ?_); refine goesL_ (some 39) rfl rfl Try.func4 zk rfl #[.slice A0 l0.length c0] rfl zA ?_; (with_reducible refine (laws_big.calls _ _ l0 false _ ?side1 ?side2 A2.out).mono ?_); (case side1 => exact zC HR0.out); (case side2 => exact HC0.out); rintro e w' ⟨rfl, ⟨nd, rfl⟩⟩; refine ⟨_, rfl, ?_⟩) | ((with_reducible refine gate_callee (f := 5) rfl ?_); refine goesL_ (some 42) rfl rfl Try.func5 zk rfl #[.slice A0 l0.length c0] rfl zA ?_; (with_reducible refine (spec_DrawTowerOf.calls k _ _ l0 t102 t105 _ ?side1 ?side2 A4.out).mono ?_); (case side1 => exact zC HR0.out); (case side2 => exact HC0.out); rintro e w8 ⟨v103, v106, rfl, ho0, ho1, hb⟩; refine ⟨_, rfl, ?_⟩; have n_ := y3 (Kd.R_lower ho0 (below_size (zB))) (Kd.R_lower ho1 (below_size (zB))) (below_step (zB) hb); clear HB; obtain ⟨HO104, HO107, HB⟩ := n_; (try clear hb); (try clear hb2); (try clear hk); (try clear hi); (try clear ho0); (try clear ho1)) | ((with_reducible refine gate_dst (N := 3) rfl ?_); refine box_event zr (N := 3) zr (cs := #[.slice none 0 0]) (t := 26) zg ?_; intro gb108 hg w9 hbox hb; have n_ := y6 (Kd.R_below (zR HO104.out) hb) (Kd.R_below (zR HO107.out) hb) (below_step (zB) hb) (hbox) ((zS hg : w.heap.size ≤ gb108)) ((zS hg : w.heap.size ≤ gb108)); clear HO104 HO107 HB; obtain ⟨HO104, HO107, HB, BK108, GW108, GE108⟩ := n_; clear hb hbox hg; obtain ⟨Ao10, co10, eo10⟩ := Kd.R_slice HO104.out; subst eo10; have hcz11_0 := zc BK108.out; have hfz11_0 := blk_frozen BK108.out 0; obtain ⟨Ao12, co12, eo12⟩ := Kd.R_slice HO107.out; subst eo12) | ((with_reducible refine gate_callee (f := 6) rfl ?_); refine goesL_ (some 48) rfl rfl Try.func6 zk rfl #[.agg #[.slice Ao10 t102.length co10], .slice Ao12 t105.length co12] rfl zA ?_; (with_reducible refine (impl_TowerOf.calls k _ _ t102 _ _ t105 t109 t110 _ ?side1 ?side2 ?side3 ?side4 A5.out).mono ?_); (case side1 => refine (Kd.R_reads' (e := 2) (base := w.heap.size) (ok := fun k_ => some k_ ≠ (.slice Ao12 t105.length co12 : Value).ownBlock) (n := t102.length) (c := co10) ?_).2.2; exact (by refine zR ?_; exact (Kd.R_mono (Kd.R_far (p := ⟨gb108, 0, none⟩) (Kd.R_types HO104.out BK108.out (by decide)) (fun _ hk => hk.2) (.slice Ao10 t102.length co10)) (fun _ h_ => h_.1)))); (case side2 => exact (Kd.R_reads' HO104.out).2.1); (case side3 => refine (Kd.R_reads' (e := 2) (base := w.heap.size) (ok := fun k_ => some k_ ≠ (.slice Ao10 t102.length co10 : Value).ownBlock) (n := t105.length) (c := co12) ?_).2.2; exact (by refine zR ?_; exact (Kd.R_mono (Kd.R_far (p := ⟨gb108, 0, none⟩) (Kd.R_types HO107.out BK108.out (by decide)) (fun _ hk => hk.2) (.slice Ao10 t102.length co10)) (fun _ h_ => h_.1)))); (case side4 => exact (Kd.R_reads' HO107.out).2.1); rintro e w13 ⟨rfl, hb⟩; refine ⟨_, rfl, ?_⟩; have n_ := y4 (Kd.R_below (by refine zR ?_; exact (Kd.R_mono (Kd.R_far (p := ⟨gb108, 0, none⟩) (Kd.R_types HO104.out BK108.out (by decide)) (fun _ hk => hk.2) (.slice Ao10 t102.length co10)) (fun _ h_ => h_.1))) hb) (Kd.R_below (by refine zR ?_; exact (Kd.R_mono (Kd.R_far (p := ⟨gb108, 0, none⟩) (Kd.R_types HO107.out BK108.out (by decide)) (fun _ hk => hk.2) (.slice Ao10 t102.length co10)) (fun _ h_ => h_.1))) hb) (blk_below (g := gb108) (o := .cells #[.slice Ao10 t102.length co10] 26 (0, 0)) (by refine zG ?_; refine blk_put (cs := #[.slice none 0 0]) ?_ 0 _ rfl; refine zG ?_; exact BK108.out) hb) (below_step (zB) hb); clear HO104 HO107 BK108 HB; obtain ⟨HO104, HO107, BK108, HB⟩ := n_; (try clear hb); (try clear hb2); (try clear hk); (try clear hi); have hcz14_0 := zc BK108.out; have hfz14_0 := blk_frozen BK108.out 0) | ((with_reducible refine gate_callee (f := 7) rfl ?_); refine goesL_ (some 54) rfl rfl Try.func7 zk rfl #[.agg #[.slice Ao10 t102.length co10], .slice Ao12 t105.length co12] rfl zA ?_; (with_reducible refine (spec_TowerOf.calls k _ _ t102 _ _ t105 t111 t112 _ ?side1 ?side2 ?side3 ?side4 A6.out).mono ?_); (case side1 => exact zC (Kd.R_reads' HO104.out).2.2); (case side2 => exact (Kd.R_reads' HO104.out).2.1); (case side3 => exact zC (Kd.R_reads' HO107.out).2.2); (case side4 => exact (Kd.R_reads' HO107.out).2.1); rintro e w15 ⟨rfl, hb⟩; refine ⟨_, rfl, ?_⟩; have n_ := y4 (Kd.R_below (zR HO104.out) hb) (Kd.R_below (zR HO107.out) hb) (zb BK108.out hb) (below_step (zB) hb); clear HO104 HO107 BK108 HB; obtain ⟨HO104, HO107, BK108, HB⟩ := n_; (try clear hb); (try clear hb2); (try clear hk); (try clear hi)))
 (try simp only [Act.put, List.setIfInBounds_toArray, List.set_cons_zero, List.set_cons_succ])
 go_cut [64] (fun v64 wc => ∃ (kq : Nat) (x64_6 : Bool), v64 = .bool x64_6 ∧ Aside0 (laws_FnGardens.j0 kq l0 t109 t110 x64_6 t102 = some r) ∧ Aside0 (kq ≤ k) ∧ Aside0 (Kd.R (Kd.int .i64) 2 wc w.heap.size (fun _ => True) (.slice Ao10 t102.length co10) t102) ∧ Aside0 (wc.heap[gb108]? = some (.cells #[(.slice Ao10 t102.length co10)] 26 (0, 0))) ∧ Aside0 (Below w.heap.size w wc))
 case first =>
  as_aux_lemma =>
   have H := HC7.out
   clear HC7
   by_cases c16 : t110 = t112
   ·
    rw [if_pos c16] at H
    have c16b0 : (t110 == t112) = true := beq_iff_eq.mpr c16
    have c16b1 : (t110 != t112) = false := bne_eq_false_iff_eq.mpr c16
    clear c16
    (first | rw [c16b0] | (simp only [i64_w, i32_w]; rw [c16b0]) | skip)
    have H' := Aside0.mk H
    clear H
    go_wp2
    go_meet
    case rel => exact ⟨_, ((t109 != t111)), zF, H', ⟨by first | omega | exact Nat.le_refl _⟩, ⟨by refine zR ?_; exact Kd.R_mono HO104.out (fun _ hk => trivial)⟩, ⟨zG BK108.out⟩, ⟨zB⟩⟩
   rw [if_neg c16] at H
   have c16b0 : (t110 == t112) = false := beq_eq_false_iff_ne.mpr c16
   have c16b1 : (t110 != t112) = true := bne_iff_ne.mpr c16
   (first | rw [c16b0] | (simp only [i64_w, i32_w]; rw [c16b0]) | skip)
   have H' := Aside0.mk H
   clear H
   go_wp2
   go_meet
   case rel => exact ⟨_, (true), zF, H', ⟨by first | omega | exact Nat.le_refl _⟩, ⟨by refine zR ?_; exact Kd.R_mono HO104.out (fun _ hk => trivial)⟩, ⟨zG BK108.out⟩, ⟨zB⟩⟩
 case rest =>
  as_aux_lemma =>
   clear HC7
   try clear c3
   try clear hcz11_0
   try clear hcz14_0
   try clear hfz11_0
   try clear hfz14_0
   obtain ⟨kq, x64_6, rfl, HA, HJ6, HO_109000, BK108, HB⟩ := hcut
   cases kq with
   | zero => exact absurd HA.out (by simp [laws_FnGardens.j0])
   | succ kj6 =>
     have H := HA.out
     clear HA
     simp only [laws_FnGardens.j0] at H
     by_cases c17 : x64_6 = true
     · subst c17
       have H1 : (some false) = some r := by rw [if_pos rfl] at H; exact H
       clear H
       have H := H1
       clear H1
       obtain rfl := Option.some.inj H
       go_wp2
       go_ret
       exact ⟨zE, zB⟩
     · replace c17 := Bool.eq_false_iff.mpr c17
       subst c17
       have H1 : ((spec_DrawHeightsBehind.f kj6 l0).bind fun bt113 => ((impl_HeightsBehind.f bt113.1 bt113.2.1 bt113.2.2).bind fun bt121 => ((spec_HeightsBehind.f kj6 bt113.1 bt113.2.1 bt113.2.2).bind fun bt125 => (if bt121.2 = bt125.2 then ((laws_likeInts.f kj6 bt121.1 bt125.1).bind fun t129 => (laws_FnGardens.j1 kj6 l0 t109 t110 bt113.2.2 bt121.1 bt121.2 (!t129) t102)) else (laws_FnGardens.j1 kj6 l0 t109 t110 bt113.2.2 bt121.1 bt121.2 true t102))))) = some r := by rw [if_neg (show ¬ (false = true) by decide)] at H; exact H
       clear H
       have H := H1
       clear H1
       replace H := Option.bind_eq_some_iff.mp H
       obtain ⟨⟨t113, t116, t119⟩, A180, H⟩ := H
       replace H : ((impl_HeightsBehind.f t113 t116 t119).bind fun bt121 => ((spec_HeightsBehind.f kj6 t113 t116 t119).bind fun bt125 => (if bt121.2 = bt125.2 then ((laws_likeInts.f kj6 bt121.1 bt125.1).bind fun t129 => (laws_FnGardens.j1 kj6 l0 t109 t110 t119 bt121.1 bt121.2 (!t129) t102)) else (laws_FnGardens.j1 kj6 l0 t109 t110 t119 bt121.1 bt121.2 true t102)))) = some r := H
       have A18 := Aside0.mk A180
       clear A180
       replace H := Option.bind_eq_some_iff.mp H
       obtain ⟨⟨t121, t124⟩, A190, H⟩ := H
       replace H : ((spec_HeightsBehind.f kj6 t113 t116 t119).bind fun bt125 => (if t124 = bt125.2 then ((laws_likeInts.f kj6 t121 bt125.1).bind fun t129 => (laws_FnGardens.j1 kj6 l0 t109 t110 t119 t121 t124 (!t129) t102)) else (laws_FnGardens.j1 kj6 l0 t109 t110 t119 t121 t124 true t102))) = some r := H
       have A19 := Aside0.mk A190
       clear A190
       replace H := Option.bind_eq_some_iff.mp H
       obtain ⟨⟨t125, t128⟩, A200, H⟩ := H
       replace H : (if t124 = t128 then ((laws_likeInts.f kj6 t121 t125).bind fun t129 => (laws_FnGardens.j1 kj6 l0 t109 t110 t119 t121 t124 (!t129) t102)) else (laws_FnGardens.j1 kj6 l0 t109 t110 t119 t121 t124 true t102)) = some r := H
       have A20 := Aside0.mk A200
       clear A200
       have HC21 := Aside0.mk H
       clear H
       go_upto_region 11 with (first | ((with_reducible refine gate_callee (f := 8) rfl ?_); refine goesL_ (some 67) rfl rfl Try.func8 zk rfl #[.slice A0 l0.length c0] rfl zA ?_; (with_reducible refine (spec_DrawHeightsBehind.calls kj6 _ _ l0 t113 t116 t119 _ ?side1 ?side2 A18.out).mono ?_); (case side1 => exact zC (Kd.C_below HR0.out HB.out)); (case side2 => exact HC0.out); rintro e w22 ⟨v114, v117, rfl, ho0, ho1, hb⟩; refine ⟨_, rfl, ?_⟩; have n_ := y5 (Kd.R_mono (Kd.R_told (Kd.R_told (Kd.R_old (zR HO_109000.out) hb) (Kd.R_base ho0)) (Kd.R_base ho1)) (fun _ h_ => h_.1)) (Kd.R_lower (Kd.R_new' ho0 (Kd.R_lt (zR HO_109000.out))) (below_size (zB))) (Kd.R_lower (Kd.R_new' ho1 (Kd.R_lt (zR HO_109000.out))) (below_size (zB))) (zb BK108.out hb) (below_step (zB) hb); clear HO_109000 BK108 HB; obtain ⟨HO_109000, HO115, HO118, BK108, HB⟩ := n_; (try clear hb); (try clear hb2); (try clear hk); (try clear hi); (try clear ho0); (try clear ho1)) | ((with_reducible refine gate_dst (N := 9) rfl ?_); refine box_event zr (N := 9) zr (cs := #[.slice none 0 0]) (t := 26) zg ?_; intro gb120 hg w23 hbox hb; have n_ := y10 (Kd.R_below (zR HO_109000.out) hb) (Kd.R_below (zR HO115.out) hb) (Kd.R_below (zR HO118.out) hb) (zb BK108.out hb) (below_step (zB) hb) (hbox) ((zS hg : w.heap.size ≤ gb120)) ((zS hg : w.heap.size ≤ gb120)) ((zL hg BK108.out : gb108 ≠ gb120)) ((zM hg BK108.out : gb120 ≠ gb108)); clear HO_109000 HO115 HO118 BK108 HB; obtain ⟨HO_109000, HO115, HO118, BK108, HB, BK120, GW120, GE120, NB108_120, NB120_108⟩ := n_; clear hb hbox hg; obtain ⟨Ao24, co24, eo24⟩ := Kd.R_slice HO115.out; subst eo24; have hnb25 := NB120_108.out; have hnc25 := NB108_120.out; have hcz26_0 := zc BK120.out; have hfz26_0 := blk_frozen BK120.out 0; obtain ⟨Ao27, co27, eo27⟩ := Kd.R_slice HO118.out; subst eo27) | ((with_reducible refine gate_callee (f := 9) rfl ?_); refine goesL_ (some 75) rfl rfl Try.func9 zk rfl #[.agg #[.slice Ao24 t113.length co24], .slice Ao27 t116.length co27, .int .i64 t119] rfl zA ?_; (with_reducible refine (impl_HeightsBehind.calls _ _ t113 _ _ t116 t119 t121 t124 _ ?side1 ?side2 ?side3 ?side4 A19.out).mono ?_); (case side1 => refine (Kd.R_reads' (e := 2) (base := w.heap.size) (ok := fun k_ => (some k_ ≠ (.slice Ao27 t116.length co27 : Value).ownBlock ∧ some k_ ≠ (.slice Ao10 t102.length co10 : Value).ownBlock)) (n := t113.length) (c := co24) ?_).2.2; exact (by refine zR ?_; exact (Kd.R_mono (Kd.R_far (p := ⟨gb120, 0, none⟩) (Kd.R_types HO115.out BK120.out (by decide)) (fun _ hk => hk.2) (.slice Ao24 t113.length co24)) (fun _ h_ => h_.1)))); (case side2 => exact (Kd.R_reads' HO115.out).2.1); (case side3 => refine (Kd.R_reads' (e := 2) (base := w.heap.size) (ok := fun k_ => (some k_ ≠ (.slice Ao24 t113.length co24 : Value).ownBlock ∧ some k_ ≠ (.slice Ao10 t102.length co10 : Value).ownBlock)) (n := t116.length) (c := co27) ?_).2.2; exact (by refine zR ?_; exact (Kd.R_mono (Kd.R_far (p := ⟨gb120, 0, none⟩) (Kd.R_types HO118.out BK120.out (by decide)) (fun _ hk => hk.2) (.slice Ao24 t113.length co24)) (fun _ h_ => h_.1)))); (case side4 => exact (Kd.R_reads' HO118.out).2.1); rintro e w28 ⟨v122, rfl, ho0, hb⟩; refine ⟨_, rfl, ?_⟩; have n_ := y7 (Kd.R_elder' (by refine zR ?_; exact (Kd.R_mono (Kd.R_far (p := ⟨gb120, 0, none⟩) (Kd.R_types HO_109000.out BK120.out (by decide)) (fun _ hk => hk.2) (.slice Ao24 t113.length co24)) (fun _ h_ => h_.1))) (Kd.R_base ho0) hb) (Kd.R_elder' (by refine zR ?_; exact (Kd.R_mono (Kd.R_far (p := ⟨gb120, 0, none⟩) (Kd.R_types HO115.out BK120.out (by decide)) (fun _ hk => hk.2) (.slice Ao24 t113.length co24)) (fun _ h_ => h_.1))) (Kd.R_base ho0) hb) (Kd.R_elder' (by refine zR ?_; exact (Kd.R_mono (Kd.R_far (p := ⟨gb120, 0, none⟩) (Kd.R_types HO118.out BK120.out (by decide)) (fun _ hk => hk.2) (.slice Ao24 t113.length co24)) (fun _ h_ => h_.1))) (Kd.R_base ho0) hb) (Kd.R_lower (Kd.R_new' (Kd.R_new' (Kd.R_new' ho0 (Kd.R_lt (by refine zR ?_; exact (Kd.R_mono (Kd.R_far (p := ⟨gb120, 0, none⟩) (Kd.R_types HO_109000.out BK120.out (by decide)) (fun _ hk => hk.2) (.slice Ao24 t113.length co24)) (fun _ h_ => h_.1))))) (Kd.R_lt (by refine zR ?_; exact (Kd.R_mono (Kd.R_far (p := ⟨gb120, 0, none⟩) (Kd.R_types HO115.out BK120.out (by decide)) (fun _ hk => hk.2) (.slice Ao24 t113.length co24)) (fun _ h_ => h_.1))))) (Kd.R_lt (by refine zR ?_; exact (Kd.R_mono (Kd.R_far (p := ⟨gb120, 0, none⟩) (Kd.R_types HO118.out BK120.out (by decide)) (fun _ hk => hk.2) (.slice Ao24 t113.length co24)) (fun _ h_ => h_.1))))) (below_size (zB))) (blk_below (g := gb108) (o := .cells #[.slice Ao10 t102.length co10] 26 (0, 0)) (by refine zG ?_; refine blk_far ?_ NB108_120.out _; refine zG ?_; exact BK108.out) hb) (blk_below (g := gb120) (o := .cells #[.slice Ao24 t113.length co24] 26 (0, 0)) (by refine zG ?_; refine blk_put (cs := #[.slice none 0 0]) ?_ 0 _ rfl; refine zG ?_; exact BK120.out) hb) (below_step (zB) hb); clear HO_109000 HO115 HO118 BK108 BK120 HB; obtain ⟨HO_109000, HO115, HO118, HO123, BK108, BK120, HB⟩ := n_; (try clear hb); (try clear hb2); (try clear hk); (try clear hi); (try clear ho0); have hcz29_0 := zc BK120.out; have hfz29_0 := blk_frozen BK120.out 0) | ((with_reducible refine gate_callee (f := 10) rfl ?_); refine goesL_ (some 82) rfl rfl Try.func10 zk rfl #[.agg #[.slice Ao24 t113.length co24], .slice Ao27 t116.length co27, .int .i64 t119] rfl zA ?_; (with_reducible refine (spec_HeightsBehind.calls kj6 _ _ t113 _ _ t116 t119 t125 t128 _ ?side1 ?side2 ?side3 ?side4 A20.out).mono ?_); (case side1 => exact zC (Kd.R_reads' HO115.out).2.2); (case side2 => exact (Kd.R_reads' HO115.out).2.1); (case side3 => exact zC (Kd.R_reads' HO118.out).2.2); (case side4 => exact (Kd.R_reads' HO118.out).2.1); rintro e w30 ⟨v126, rfl, ho0, hb⟩; refine ⟨_, rfl, ?_⟩; have n_ := y8 (Kd.R_elder' (zR HO_109000.out) (Kd.R_base ho0) hb) (Kd.R_elder' (zR HO115.out) (Kd.R_base ho0) hb) (Kd.R_elder' (zR HO118.out) (Kd.R_base ho0) hb) (Kd.R_elder' (zR HO123.out) (Kd.R_base ho0) hb) (Kd.R_lower (Kd.R_new' (Kd.R_new' (Kd.R_new' (Kd.R_new' ho0 (Kd.R_lt (zR HO_109000.out))) (Kd.R_lt (zR HO115.out))) (Kd.R_lt (zR HO118.out))) (Kd.R_lt (zR HO123.out))) (below_size (zB))) (zb BK108.out hb) (zb BK120.out hb) (below_step (zB) hb); clear HO_109000 HO115 HO118 HO123 BK108 BK120 HB; obtain ⟨HO_109000, HO115, HO118, HO123, HO127, BK108, BK120, HB⟩ := n_; (try clear hb); (try clear hb2); (try clear hk); (try clear hi); (try clear ho0)))
       (try simp only [Act.put, List.setIfInBounds_toArray, List.set_cons_zero, List.set_cons_succ])
       go_cut [93] (fun v93 wc => ∃ (kq : Nat) (x93_20 : Bool), v93 = .bool x93_20 ∧ Aside0 (laws_FnGardens.j1 kq l0 t109 t110 t119 t121 t124 x93_20 t102 = some r) ∧ Aside0 (kq ≤ kj6) ∧ Aside0 (Kd.R (Kd.int .i64) 2 wc w.heap.size (fun k_ => some k_ ≠ ((.slice Ao10 t102.length co10) : Value).ownBlock ∧ some k_ ≠ ((.slice Ao24 t113.length co24) : Value).ownBlock) v122 t121) ∧ Aside0 (Kd.R (Kd.int .i64) 2 wc w.heap.size (fun k_ => some k_ ≠ (v122 : Value).ownBlock ∧ some k_ ≠ ((.slice Ao24 t113.length co24) : Value).ownBlock) (.slice Ao10 t102.length co10) t102) ∧ Aside0 (Kd.R (Kd.int .i64) 2 wc w.heap.size (fun k_ => some k_ ≠ (v122 : Value).ownBlock ∧ some k_ ≠ ((.slice Ao10 t102.length co10) : Value).ownBlock) (.slice Ao24 t113.length co24) t113) ∧ Aside0 (wc.heap[gb108]? = some (.cells #[(.slice Ao10 t102.length co10)] 26 (0, 0))) ∧ Aside0 (wc.heap[gb120]? = some (.cells #[(.slice Ao24 t113.length co24)] 26 (0, 0))) ∧ Aside0 (Below w.heap.size w wc))
       case first =>
         as_aux_lemma =>
          have H := HC21.out
          clear HC21
          by_cases c31 : t124 = t128
          · rw [if_pos c31] at H
            have c31b0 : (t124 == t128) = true := beq_iff_eq.mpr c31
            have c31b1 : (t124 != t128) = false := bne_eq_false_iff_eq.mpr c31
            clear c31
            (first | rw [c31b0] | (simp only [i64_w, i32_w]; rw [c31b0]) | skip)
            replace H := Option.bind_eq_some_iff.mp H
            obtain ⟨t129, A320, H⟩ := H
            replace H : (laws_FnGardens.j1 kj6 l0 t109 t110 t119 t121 t124 (!t129) t102) = some r := H
            have A32 := Aside0.mk A320
            clear A320
            have H' := Aside0.mk H
            clear H
            obtain ⟨Ao33, co33, eo33⟩ := Kd.R_slice HO123.out
            subst eo33
            obtain ⟨Ao34, co34, eo34⟩ := Kd.R_slice HO127.out
            subst eo34
            go_wp2_with (first | (go_at_call 11; (with_reducible refine (laws_likeInts.calls kj6 _ _ t121 _ _ t125 t129 _ ?side1 ?side2 ?side3 ?side4 A32.out).mono ?_); (case side1 => exact zC (Kd.R_reads' HO123.out).2.2); (case side2 => exact (Kd.R_reads' HO123.out).2.1); (case side3 => exact zC (Kd.R_reads' HO127.out).2.2); (case side4 => exact (Kd.R_reads' HO127.out).2.1); rintro e w' ⟨rfl, ⟨nd, rfl⟩⟩))
            go_meet
            case rel => exact ⟨_, (!t129), zF, H', ⟨by have := HJ6.out; first | omega | exact Nat.le_refl _⟩, ⟨by refine zR ?_; exact Kd.R_mono HO123.out (fun _ hk => ⟨hk.1.1.1.2, hk.1.1.2⟩)⟩, ⟨by refine zR ?_; exact Kd.R_mono HO_109000.out (fun _ hk => ⟨hk.1.2, hk.1.1.1.2⟩)⟩, ⟨by refine zR ?_; exact Kd.R_mono HO115.out (fun _ hk => ⟨hk.1.2, hk.1.1.2⟩)⟩, ⟨zG BK108.out⟩, ⟨zG BK120.out⟩, ⟨zB⟩⟩
          · rw [if_neg c31] at H
            have c31b0 : (t124 == t128) = false := beq_eq_false_iff_ne.mpr c31
            have c31b1 : (t124 != t128) = true := bne_iff_ne.mpr c31
            (first | rw [c31b0] | (simp only [i64_w, i32_w]; rw [c31b0]) | skip)
            have H' := Aside0.mk H
            clear H
            go_wp2
            go_meet
            case rel => exact ⟨_, (true), zF, H', ⟨by have := HJ6.out; first | omega | exact Nat.le_refl _⟩, ⟨by refine zR ?_; exact Kd.R_mono HO123.out (fun _ hk => ⟨hk.1.1.1.2, hk.1.1.2⟩)⟩, ⟨by refine zR ?_; exact Kd.R_mono HO_109000.out (fun _ hk => ⟨hk.1.2, hk.1.1.1.2⟩)⟩, ⟨by refine zR ?_; exact Kd.R_mono HO115.out (fun _ hk => ⟨hk.1.2, hk.1.1.2⟩)⟩, ⟨zG BK108.out⟩, ⟨zG BK120.out⟩, ⟨zB⟩⟩
       case rest =>
         as_aux_lemma =>
          clear HC21
          try clear c3
          try clear c17
          try clear hcz11_0
          try clear hcz14_0
          try clear hcz26_0
          try clear hcz29_0
          try clear hfz11_0
          try clear hfz14_0
          try clear hfz26_0
          try clear hfz29_0
          obtain ⟨kq, x93_20, rfl, HA, HJ20, HO_12, HO_109000, HO_121000, BK108, BK120, HB⟩ := hcut
          cases kq with
          | zero => exact absurd HA.out (by simp [laws_FnGardens.j1])
          | succ kj20 =>
            have H := HA.out
            clear HA
            simp only [laws_FnGardens.j1] at H
            by_cases c35 : x93_20 = true
            · subst c35
              have H1 : (some false) = some r := by rw [if_pos rfl] at H; exact H
              clear H
              have H := H1
              clear H1
              obtain rfl := Option.some.inj H
              go_wp2
              go_ret
              exact ⟨zE, zB⟩
            · replace c35 := Bool.eq_false_iff.mpr c35
              subst c35
              have H1 : ((spec_DrawGrowDays.f kj20 l0).bind fun bt130 => ((impl_GrowDays.f kj20 bt130.1 bt130.2.1 bt130.2.2).bind fun bt138 => ((spec_GrowDays.f kj20 bt130.1 bt130.2.1 bt130.2.2).bind fun bt142 => (if bt138.2 = bt142.2 then ((laws_likeInts.f kj20 bt138.1 bt142.1).bind fun t146 => (laws_FnGardens.j2 kj20 l0 t109 t110 t119 t121 t124 (!t146) t102)) else (laws_FnGardens.j2 kj20 l0 t109 t110 t119 t121 t124 true t102))))) = some r := by rw [if_neg (show ¬ (false = true) by decide)] at H; exact H
              clear H
              have H := H1
              clear H1
              replace H := Option.bind_eq_some_iff.mp H
              obtain ⟨⟨t130, t133, t136⟩, A360, H⟩ := H
              replace H : ((impl_GrowDays.f kj20 t130 t133 t136).bind fun bt138 => ((spec_GrowDays.f kj20 t130 t133 t136).bind fun bt142 => (if bt138.2 = bt142.2 then ((laws_likeInts.f kj20 bt138.1 bt142.1).bind fun t146 => (laws_FnGardens.j2 kj20 l0 t109 t110 t119 t121 t124 (!t146) t102)) else (laws_FnGardens.j2 kj20 l0 t109 t110 t119 t121 t124 true t102)))) = some r := H
              have A36 := Aside0.mk A360
              clear A360
              replace H := Option.bind_eq_some_iff.mp H
              obtain ⟨⟨t138, t141⟩, A370, H⟩ := H
              replace H : ((spec_GrowDays.f kj20 t130 t133 t136).bind fun bt142 => (if t141 = bt142.2 then ((laws_likeInts.f kj20 t138 bt142.1).bind fun t146 => (laws_FnGardens.j2 kj20 l0 t109 t110 t119 t121 t124 (!t146) t102)) else (laws_FnGardens.j2 kj20 l0 t109 t110 t119 t121 t124 true t102))) = some r := H
              have A37 := Aside0.mk A370
              clear A370
              replace H := Option.bind_eq_some_iff.mp H
              obtain ⟨⟨t142, t145⟩, A380, H⟩ := H
              replace H : (if t141 = t145 then ((laws_likeInts.f kj20 t138 t142).bind fun t146 => (laws_FnGardens.j2 kj20 l0 t109 t110 t119 t121 t124 (!t146) t102)) else (laws_FnGardens.j2 kj20 l0 t109 t110 t119 t121 t124 true t102)) = some r := H
              have A38 := Aside0.mk A380
              clear A380
              have HC39 := Aside0.mk H
              clear H
              go_upto_region 16 with (first | ((with_reducible refine gate_callee (f := 12) rfl ?_); refine goesL_ (some 96) rfl rfl Try.func12 zk rfl #[.slice A0 l0.length c0] rfl zA ?_; (with_reducible refine (spec_DrawGrowDays.calls kj20 _ _ l0 t130 t133 t136 _ ?side1 ?side2 A36.out).mono ?_); (case side1 => exact zC (Kd.C_below HR0.out HB.out)); (case side2 => exact HC0.out); rintro e w40 ⟨v131, v134, rfl, ho0, ho1, hb⟩; refine ⟨_, rfl, ?_⟩; have n_ := y8 (Kd.R_mono (Kd.R_told (Kd.R_told (Kd.R_old (zR HO_12.out) hb) (Kd.R_base ho0)) (Kd.R_base ho1)) (fun _ h_ => h_.1)) (Kd.R_mono (Kd.R_told (Kd.R_told (Kd.R_old (zR HO_109000.out) hb) (Kd.R_base ho0)) (Kd.R_base ho1)) (fun _ h_ => h_.1)) (Kd.R_mono (Kd.R_told (Kd.R_told (Kd.R_old (zR HO_121000.out) hb) (Kd.R_base ho0)) (Kd.R_base ho1)) (fun _ h_ => h_.1)) (Kd.R_lower (Kd.R_new' (Kd.R_new' (Kd.R_new' ho0 (Kd.R_lt (zR HO_12.out))) (Kd.R_lt (zR HO_109000.out))) (Kd.R_lt (zR HO_121000.out))) (below_size (zB))) (Kd.R_lower (Kd.R_new' (Kd.R_new' (Kd.R_new' ho1 (Kd.R_lt (zR HO_12.out))) (Kd.R_lt (zR HO_109000.out))) (Kd.R_lt (zR HO_121000.out))) (below_size (zB))) (zb BK108.out hb) (zb BK120.out hb) (below_step (zB) hb); clear HO_12 HO_109000 HO_121000 BK108 BK120 HB; obtain ⟨HO_12, HO_109000, HO_121000, HO132, HO135, BK108, BK120, HB⟩ := n_; (try clear hb); (try clear hb2); (try clear hk); (try clear hi); (try clear ho0); (try clear ho1)) | ((with_reducible refine gate_dst (N := 16) rfl ?_); refine box_event zr (N := 16) zr (cs := #[.slice none 0 0]) (t := 26) zg ?_; intro gb137 hg w41 hbox hb; have n0_ := Aside0.mk (Kd.R_below (zR HO_12.out) hb); have n1_ := Aside0.mk (Kd.R_below (zR HO_109000.out) hb); have n2_ := Aside0.mk (Kd.R_below (zR HO_121000.out) hb); have n3_ := Aside0.mk (Kd.R_below (zR HO132.out) hb); have n4_ := Aside0.mk (Kd.R_below (zR HO135.out) hb); have n5_ := Aside0.mk (zb BK108.out hb); have n6_ := Aside0.mk (zb BK120.out hb); have n7_ := Aside0.mk (below_step (zB) hb); have n8_ := Aside0.mk (hbox); have n9_ := Aside0.mk ((zS hg : w.heap.size ≤ gb137)); have n10_ := Aside0.mk ((zS hg : w.heap.size ≤ gb137)); have n11_ := Aside0.mk ((zL hg BK108.out : gb108 ≠ gb137)); have n12_ := Aside0.mk ((zM hg BK108.out : gb137 ≠ gb108)); have n13_ := Aside0.mk ((zL hg BK120.out : gb120 ≠ gb137)); have n14_ := Aside0.mk ((zM hg BK120.out : gb137 ≠ gb120)); clear HO_12; clear HO_109000; clear HO_121000; clear HO132; clear HO135; clear BK108; clear BK120; clear HB; have HO_12 := n0_; have HO_109000 := n1_; have HO_121000 := n2_; have HO132 := n3_; have HO135 := n4_; have BK108 := n5_; have BK120 := n6_; have HB := n7_; have BK137 := n8_; have GW137 := n9_; have GE137 := n10_; have NB108_137 := n11_; have NB137_108 := n12_; have NB120_137 := n13_; have NB137_120 := n14_; clear n0_ n1_ n2_ n3_ n4_ n5_ n6_ n7_ n8_ n9_ n10_ n11_ n12_ n13_ n14_; clear hb hbox hg; obtain ⟨Ao42, co42, eo42⟩ := Kd.R_slice HO132.out; subst eo42; have hnb43 := NB137_108.out; have hnc43 := NB108_137.out; have hnb44 := NB137_120.out; have hnc44 := NB120_137.out; have hcz45_0 := zc BK137.out; have hfz45_0 := blk_frozen BK137.out 0; obtain ⟨Ao46, co46, eo46⟩ := Kd.R_slice HO135.out; subst eo46) | ((with_reducible refine gate_callee (f := 13) rfl ?_); refine goesL_ (some 104) rfl rfl Try.func13 zk rfl #[.agg #[.slice Ao42 t130.length co42], .slice Ao46 t133.length co46, .int .i64 t136] rfl zA ?_; (with_reducible refine (impl_GrowDays.calls kj20 _ _ t130 _ _ t133 t136 t138 t141 _ ?side1 ?side2 ?side3 ?side4 A37.out).mono ?_); (case side1 => refine (Kd.R_reads' (e := 2) (base := w.heap.size) (ok := fun k_ => (((some k_ ≠ (.slice Ao46 t133.length co46 : Value).ownBlock ∧ some k_ ≠ (v122 : Value).ownBlock) ∧ some k_ ≠ (.slice Ao10 t102.length co10 : Value).ownBlock) ∧ some k_ ≠ (.slice Ao24 t113.length co24 : Value).ownBlock)) (n := t130.length) (c := co42) ?_).2.2; exact (by refine zR ?_; exact (Kd.R_mono (Kd.R_far (p := ⟨gb137, 0, none⟩) (Kd.R_types HO132.out BK137.out (by decide)) (fun _ hk => hk.2) (.slice Ao42 t130.length co42)) (fun _ h_ => h_.1)))); (case side2 => exact (Kd.R_reads' HO132.out).2.1); (case side3 => refine (Kd.R_reads' (e := 2) (base := w.heap.size) (ok := fun k_ => (((some k_ ≠ (.slice Ao42 t130.length co42 : Value).ownBlock ∧ some k_ ≠ (v122 : Value).ownBlock) ∧ some k_ ≠ (.slice Ao10 t102.length co10 : Value).ownBlock) ∧ some k_ ≠ (.slice Ao24 t113.length co24 : Value).ownBlock)) (n := t133.length) (c := co46) ?_).2.2; exact (by refine zR ?_; exact (Kd.R_mono (Kd.R_far (p := ⟨gb137, 0, none⟩) (Kd.R_types HO135.out BK137.out (by decide)) (fun _ hk => hk.2) (.slice Ao42 t130.length co42)) (fun _ h_ => h_.1)))); (case side4 => exact (Kd.R_reads' HO135.out).2.1); rintro e w47 ⟨v139, rfl, ho0, hb⟩; refine ⟨_, rfl, ?_⟩; have n_ := y10 (Kd.R_elder' (by refine zR ?_; exact (Kd.R_mono (Kd.R_far (p := ⟨gb137, 0, none⟩) (Kd.R_types HO_12.out BK137.out (by decide)) (fun _ hk => hk.2) (.slice Ao42 t130.length co42)) (fun _ h_ => h_.1))) (Kd.R_base ho0) hb) (Kd.R_elder' (by refine zR ?_; exact (Kd.R_mono (Kd.R_far (p := ⟨gb137, 0, none⟩) (Kd.R_types HO_109000.out BK137.out (by decide)) (fun _ hk => hk.2) (.slice Ao42 t130.length co42)) (fun _ h_ => h_.1))) (Kd.R_base ho0) hb) (Kd.R_elder' (by refine zR ?_; exact (Kd.R_mono (Kd.R_far (p := ⟨gb137, 0, none⟩) (Kd.R_types HO_121000.out BK137.out (by decide)) (fun _ hk => hk.2) (.slice Ao42 t130.length co42)) (fun _ h_ => h_.1))) (Kd.R_base ho0) hb) (Kd.R_elder' (by refine zR ?_; exact (Kd.R_mono (Kd.R_far (p := ⟨gb137, 0, none⟩) (Kd.R_types HO132.out BK137.out (by decide)) (fun _ hk => hk.2) (.slice Ao42 t130.length co42)) (fun _ h_ => h_.1))) (Kd.R_base ho0) hb) (Kd.R_elder' (by refine zR ?_; exact (Kd.R_mono (Kd.R_far (p := ⟨gb137, 0, none⟩) (Kd.R_types HO135.out BK137.out (by decide)) (fun _ hk => hk.2) (.slice Ao42 t130.length co42)) (fun _ h_ => h_.1))) (Kd.R_base ho0) hb) (Kd.R_lower (Kd.R_new' (Kd.R_new' (Kd.R_new' (Kd.R_new' (Kd.R_new' ho0 (Kd.R_lt (by refine zR ?_; exact (Kd.R_mono (Kd.R_far (p := ⟨gb137, 0, none⟩) (Kd.R_types HO_12.out BK137.out (by decide)) (fun _ hk => hk.2) (.slice Ao42 t130.length co42)) (fun _ h_ => h_.1))))) (Kd.R_lt (by refine zR ?_; exact (Kd.R_mono (Kd.R_far (p := ⟨gb137, 0, none⟩) (Kd.R_types HO_109000.out BK137.out (by decide)) (fun _ hk => hk.2) (.slice Ao42 t130.length co42)) (fun _ h_ => h_.1))))) (Kd.R_lt (by refine zR ?_; exact (Kd.R_mono (Kd.R_far (p := ⟨gb137, 0, none⟩) (Kd.R_types HO_121000.out BK137.out (by decide)) (fun _ hk => hk.2) (.slice Ao42 t130.length co42)) (fun _ h_ => h_.1))))) (Kd.R_lt (by refine zR ?_; exact (Kd.R_mono (Kd.R_far (p := ⟨gb137, 0, none⟩) (Kd.R_types HO132.out BK137.out (by decide)) (fun _ hk => hk.2) (.slice Ao42 t130.length co42)) (fun _ h_ => h_.1))))) (Kd.R_lt (by refine zR ?_; exact (Kd.R_mono (Kd.R_far (p := ⟨gb137, 0, none⟩) (Kd.R_types HO135.out BK137.out (by decide)) (fun _ hk => hk.2) (.slice Ao42 t130.length co42)) (fun _ h_ => h_.1))))) (below_size (zB))) (blk_below (g := gb108) (o := .cells #[.slice Ao10 t102.length co10] 26 (0, 0)) (by refine zG ?_; refine blk_far ?_ NB108_137.out _; refine zG ?_; exact BK108.out) hb) (blk_below (g := gb120) (o := .cells #[.slice Ao24 t113.length co24] 26 (0, 0)) (by refine zG ?_; refine blk_far ?_ NB120_137.out _; refine zG ?_; exact BK120.out) hb) (blk_below (g := gb137) (o := .cells #[.slice Ao42 t130.length co42] 26 (0, 0)) (by refine zG ?_; refine blk_put (cs := #[.slice none 0 0]) ?_ 0 _ rfl; refine zG ?_; exact BK137.out) hb) (below_step (zB) hb); clear HO_12 HO_109000 HO_121000 HO132 HO135 BK108 BK120 BK137 HB; obtain ⟨HO_12, HO_109000, HO_121000, HO132, HO135, HO140, BK108, BK120, BK137, HB⟩ := n_; (try clear hb); (try clear hb2); (try clear hk); (try clear hi); (try clear ho0); have hcz48_0 := zc BK137.out; have hfz48_0 := blk_frozen BK137.out 0) | ((with_reducible refine gate_callee (f := 14) rfl ?_); refine goesL_ (some 111) rfl rfl Try.func14 zk rfl #[.agg #[.slice Ao42 t130.length co42], .slice Ao46 t133.length co46, .int .i64 t136] rfl zA ?_; (with_reducible refine (spec_GrowDays.calls kj20 _ _ t130 _ _ t133 t136 t142 t145 _ ?side1 ?side2 ?side3 ?side4 A38.out).mono ?_); (case side1 => exact zC (Kd.R_reads' HO132.out).2.2); (case side2 => exact (Kd.R_reads' HO132.out).2.1); (case side3 => exact zC (Kd.R_reads' HO135.out).2.2); (case side4 => exact (Kd.R_reads' HO135.out).2.1); rintro e w49 ⟨v143, rfl, ho0, hb⟩; refine ⟨_, rfl, ?_⟩; have n_ := y11 (Kd.R_elder' (zR HO_12.out) (Kd.R_base ho0) hb) (Kd.R_elder' (zR HO_109000.out) (Kd.R_base ho0) hb) (Kd.R_elder' (zR HO_121000.out) (Kd.R_base ho0) hb) (Kd.R_elder' (zR HO132.out) (Kd.R_base ho0) hb) (Kd.R_elder' (zR HO135.out) (Kd.R_base ho0) hb) (Kd.R_elder' (zR HO140.out) (Kd.R_base ho0) hb) (Kd.R_lower (Kd.R_new' (Kd.R_new' (Kd.R_new' (Kd.R_new' (Kd.R_new' (Kd.R_new' ho0 (Kd.R_lt (zR HO_12.out))) (Kd.R_lt (zR HO_109000.out))) (Kd.R_lt (zR HO_121000.out))) (Kd.R_lt (zR HO132.out))) (Kd.R_lt (zR HO135.out))) (Kd.R_lt (zR HO140.out))) (below_size (zB))) (zb BK108.out hb) (zb BK120.out hb) (zb BK137.out hb) (below_step (zB) hb); clear HO_12 HO_109000 HO_121000 HO132 HO135 HO140 BK108 BK120 BK137 HB; obtain ⟨HO_12, HO_109000, HO_121000, HO132, HO135, HO140, HO144, BK108, BK120, BK137, HB⟩ := n_; (try clear hb); (try clear hb2); (try clear hk); (try clear hi); (try clear ho0)))
              (try simp only [Act.put, List.setIfInBounds_toArray, List.set_cons_zero, List.set_cons_succ])
              go_cut [122] (fun u122_ wc => ∃ (kq : Nat) (x122_38 : Bool), u122_ = .bool x122_38 ∧ Aside0 (laws_FnGardens.j2 kq l0 t109 t110 t119 t121 t124 x122_38 t102 = some r) ∧ Aside0 (kq ≤ kj20) ∧ Aside0 (Kd.R (Kd.int .i64) 2 wc w.heap.size (fun k_ => some k_ ≠ ((.slice Ao10 t102.length co10) : Value).ownBlock ∧ some k_ ≠ ((.slice Ao24 t113.length co24) : Value).ownBlock ∧ some k_ ≠ ((.slice Ao42 t130.length co42) : Value).ownBlock) v122 t121) ∧ Aside0 (Kd.R (Kd.int .i64) 2 wc w.heap.size (fun k_ => some k_ ≠ (v122 : Value).ownBlock ∧ some k_ ≠ ((.slice Ao24 t113.length co24) : Value).ownBlock ∧ some k_ ≠ ((.slice Ao42 t130.length co42) : Value).ownBlock) (.slice Ao10 t102.length co10) t102) ∧ Aside0 (Kd.R (Kd.int .i64) 2 wc w.heap.size (fun k_ => some k_ ≠ (v122 : Value).ownBlock ∧ some k_ ≠ ((.slice Ao10 t102.length co10) : Value).ownBlock ∧ some k_ ≠ ((.slice Ao42 t130.length co42) : Value).ownBlock) (.slice Ao24 t113.length co24) t113) ∧ Aside0 (Kd.R (Kd.int .i64) 2 wc w.heap.size (fun k_ => some k_ ≠ (v122 : Value).ownBlock ∧ some k_ ≠ ((.slice Ao10 t102.length co10) : Value).ownBlock ∧ some k_ ≠ ((.slice Ao24 t113.length co24) : Value).ownBlock) (.slice Ao42 t130.length co42) t130) ∧ Aside0 (wc.heap[gb108]? = some (.cells #[(.slice Ao10 t102.length co10)] 26 (0, 0))) ∧ Aside0 (wc.heap[gb120]? = some (.cells #[(.slice Ao24 t113.length co24)] 26 (0, 0))) ∧ Aside0 (wc.heap[gb137]? = some (.cells #[(.slice Ao42 t130.length co42)] 26 (0, 0))) ∧ Aside0 (Below w.heap.size w wc))
              case first =>
                as_aux_lemma =>
                 have H := HC39.out
                 clear HC39
                 by_cases c50 : t141 = t145
                 · rw [if_pos c50] at H
                   have c50b0 : (t141 == t145) = true := beq_iff_eq.mpr c50
                   have c50b1 : (t141 != t145) = false := bne_eq_false_iff_eq.mpr c50
                   clear c50
                   (first | rw [c50b0] | (simp only [i64_w, i32_w]; rw [c50b0]) | skip)
                   replace H := Option.bind_eq_some_iff.mp H
                   obtain ⟨t146, A510, H⟩ := H
                   replace H : (laws_FnGardens.j2 kj20 l0 t109 t110 t119 t121 t124 (!t146) t102) = some r := H
                   have A51 := Aside0.mk A510
                   clear A510
                   have H' := Aside0.mk H
                   clear H
                   obtain ⟨Ao52, co52, eo52⟩ := Kd.R_slice HO140.out
                   subst eo52
                   obtain ⟨Ao53, co53, eo53⟩ := Kd.R_slice HO144.out
                   subst eo53
                   go_wp2_with (first | (go_at_call 11; (with_reducible refine (laws_likeInts.calls kj20 _ _ t138 _ _ t142 t146 _ ?side1 ?side2 ?side3 ?side4 A51.out).mono ?_); (case side1 => exact zC (Kd.R_reads' HO140.out).2.2); (case side2 => exact (Kd.R_reads' HO140.out).2.1); (case side3 => exact zC (Kd.R_reads' HO144.out).2.2); (case side4 => exact (Kd.R_reads' HO144.out).2.1); rintro e w' ⟨rfl, ⟨nd, rfl⟩⟩))
                   go_meet
                   case rel => exact ⟨_, (!t146), zF, H', ⟨by have := HJ6.out; have := HJ20.out; first | omega | exact Nat.le_refl _⟩, ⟨by refine zR ?_; exact Kd.R_mono HO_12.out (fun _ hk => ⟨hk.1.1.1.1.1, ⟨hk.1.1.1.1.2, hk.1.1.1.2⟩⟩)⟩, ⟨by refine zR ?_; exact Kd.R_mono HO_109000.out (fun _ hk => ⟨hk.1.1.1.1.1, ⟨hk.1.1.1.1.2, hk.1.1.1.2⟩⟩)⟩, ⟨by refine zR ?_; exact Kd.R_mono HO_121000.out (fun _ hk => ⟨hk.1.1.1.1.1, ⟨hk.1.1.1.1.2, hk.1.1.1.2⟩⟩)⟩, ⟨by refine zR ?_; exact Kd.R_mono HO132.out (fun _ hk => ⟨hk.1.1.1.1.2, ⟨hk.1.1.1.2, hk.1.1.2⟩⟩)⟩, ⟨zG BK108.out⟩, ⟨zG BK120.out⟩, ⟨zG BK137.out⟩, ⟨zB⟩⟩
                 · rw [if_neg c50] at H
                   have c50b0 : (t141 == t145) = false := beq_eq_false_iff_ne.mpr c50
                   have c50b1 : (t141 != t145) = true := bne_iff_ne.mpr c50
                   (first | rw [c50b0] | (simp only [i64_w, i32_w]; rw [c50b0]) | skip)
                   have H' := Aside0.mk H
                   clear H
                   go_wp2
                   go_meet
                   case rel => exact ⟨_, (true), zF, H', ⟨by have := HJ6.out; have := HJ20.out; first | omega | exact Nat.le_refl _⟩, ⟨by refine zR ?_; exact Kd.R_mono HO_12.out (fun _ hk => ⟨hk.1.1.1.1.1, ⟨hk.1.1.1.1.2, hk.1.1.1.2⟩⟩)⟩, ⟨by refine zR ?_; exact Kd.R_mono HO_109000.out (fun _ hk => ⟨hk.1.1.1.1.1, ⟨hk.1.1.1.1.2, hk.1.1.1.2⟩⟩)⟩, ⟨by refine zR ?_; exact Kd.R_mono HO_121000.out (fun _ hk => ⟨hk.1.1.1.1.1, ⟨hk.1.1.1.1.2, hk.1.1.1.2⟩⟩)⟩, ⟨by refine zR ?_; exact Kd.R_mono HO132.out (fun _ hk => ⟨hk.1.1.1.1.2, ⟨hk.1.1.1.2, hk.1.1.2⟩⟩)⟩, ⟨zG BK108.out⟩, ⟨zG BK120.out⟩, ⟨zG BK137.out⟩, ⟨zB⟩⟩
              case rest =>
                as_aux_lemma =>
                 clear HC39
                 try clear c3
                 try clear c17
                 try clear c35
                 try clear hcz11_0
                 try clear hcz14_0
                 try clear hcz26_0
                 try clear hcz29_0
                 try clear hcz45_0
                 try clear hcz48_0
                 try clear hfz11_0
                 try clear hfz14_0
                 try clear hfz26_0
                 try clear hfz29_0
                 try clear hfz45_0
                 try clear hfz48_0
                 obtain ⟨kq, x122_38, rfl, HA, HJ38, HO_12, HO_109000, HO_121000, HO_138000, BK108, BK120, BK137, HB⟩ := hcut
                 cases kq with
                 | zero => exact absurd HA.out (by simp [laws_FnGardens.j2])
                 | succ kj38 =>
                   have H := HA.out
                   clear HA
                   simp only [laws_FnGardens.j2] at H
                   by_cases c54 : x122_38 = true
                   · subst c54
                     have H1 : (some false) = some r := by rw [if_pos rfl] at H; exact H
                     clear H
                     have H := H1
                     clear H1
                     obtain rfl := Option.some.inj H
                     go_wp2
                     go_ret
                     exact ⟨zE, zB⟩
                   · replace c54 := Bool.eq_false_iff.mpr c54
                     subst c54
                     have H1 : ((spec_DrawCutBySpeed.f kj38 l0).bind fun bt147 => ((impl_CutBySpeed.f bt147.1 bt147.2.1 bt147.2.2).bind fun bt155 => ((spec_CutBySpeed.f kj38 bt147.1 bt147.2.1 bt147.2.2).bind fun bt157 => (if bt155.2 = bt157.2 then (laws_FnGardens.j3 kj38 t109 t110 t119 t121 t124 bt147.2.1 bt147.2.2 bt155.1 bt155.2 (bt155.1 != bt157.1) t102 bt147.1) else (laws_FnGardens.j3 kj38 t109 t110 t119 t121 t124 bt147.2.1 bt147.2.2 bt155.1 bt155.2 true t102 bt147.1))))) = some r := by rw [if_neg (show ¬ (false = true) by decide)] at H; exact H
                     clear H
                     have H := H1
                     clear H1
                     replace H := Option.bind_eq_some_iff.mp H
                     obtain ⟨⟨t147, t150, t153⟩, A550, H⟩ := H
                     replace H : ((impl_CutBySpeed.f t147 t150 t153).bind fun bt155 => ((spec_CutBySpeed.f kj38 t147 t150 t153).bind fun bt157 => (if bt155.2 = bt157.2 then (laws_FnGardens.j3 kj38 t109 t110 t119 t121 t124 t150 t153 bt155.1 bt155.2 (bt155.1 != bt157.1) t102 t147) else (laws_FnGardens.j3 kj38 t109 t110 t119 t121 t124 t150 t153 bt155.1 bt155.2 true t102 t147)))) = some r := H
                     have A55 := Aside0.mk A550
                     clear A550
                     replace H := Option.bind_eq_some_iff.mp H
                     obtain ⟨⟨t155, t156⟩, A560, H⟩ := H
                     replace H : ((spec_CutBySpeed.f kj38 t147 t150 t153).bind fun bt157 => (if t156 = bt157.2 then (laws_FnGardens.j3 kj38 t109 t110 t119 t121 t124 t150 t153 t155 t156 (t155 != bt157.1) t102 t147) else (laws_FnGardens.j3 kj38 t109 t110 t119 t121 t124 t150 t153 t155 t156 true t102 t147))) = some r := H
                     have A56 := Aside0.mk A560
                     clear A560
                     replace H := Option.bind_eq_some_iff.mp H
                     obtain ⟨⟨t157, t158⟩, A570, H⟩ := H
                     replace H : (if t156 = t158 then (laws_FnGardens.j3 kj38 t109 t110 t119 t121 t124 t150 t153 t155 t156 (t155 != t157) t102 t147) else (laws_FnGardens.j3 kj38 t109 t110 t119 t121 t124 t150 t153 t155 t156 true t102 t147)) = some r := H
                     have A57 := Aside0.mk A570
                     clear A570
                     have HC58 := Aside0.mk H
                     clear H
                     go_upto_region 21 with (first | ((with_reducible refine gate_callee (f := 15) rfl ?_); refine goesL_ (some 125) rfl rfl Try.func15 zk rfl #[.slice A0 l0.length c0] rfl zA ?_; (with_reducible refine (spec_DrawCutBySpeed.calls kj38 _ _ l0 t147 t150 t153 _ ?side1 ?side2 A55.out).mono ?_); (case side1 => exact zC (Kd.C_below HR0.out HB.out)); (case side2 => exact HC0.out); rintro e w59 ⟨v148, v151, rfl, ho0, ho1, hb⟩; refine ⟨_, rfl, ?_⟩; have n_ := y10 (Kd.R_mono (Kd.R_told (Kd.R_told (Kd.R_old (zR HO_12.out) hb) (Kd.R_base ho0)) (Kd.R_base ho1)) (fun _ h_ => h_.1)) (Kd.R_mono (Kd.R_told (Kd.R_told (Kd.R_old (zR HO_109000.out) hb) (Kd.R_base ho0)) (Kd.R_base ho1)) (fun _ h_ => h_.1)) (Kd.R_mono (Kd.R_told (Kd.R_told (Kd.R_old (zR HO_121000.out) hb) (Kd.R_base ho0)) (Kd.R_base ho1)) (fun _ h_ => h_.1)) (Kd.R_mono (Kd.R_told (Kd.R_told (Kd.R_old (zR HO_138000.out) hb) (Kd.R_base ho0)) (Kd.R_base ho1)) (fun _ h_ => h_.1)) (Kd.R_lower (Kd.R_new' (Kd.R_new' (Kd.R_new' (Kd.R_new' ho0 (Kd.R_lt (zR HO_12.out))) (Kd.R_lt (zR HO_109000.out))) (Kd.R_lt (zR HO_121000.out))) (Kd.R_lt (zR HO_138000.out))) (below_size (zB))) (Kd.R_lower (Kd.R_new' (Kd.R_new' (Kd.R_new' (Kd.R_new' ho1 (Kd.R_lt (zR HO_12.out))) (Kd.R_lt (zR HO_109000.out))) (Kd.R_lt (zR HO_121000.out))) (Kd.R_lt (zR HO_138000.out))) (below_size (zB))) (zb BK108.out hb) (zb BK120.out hb) (zb BK137.out hb) (below_step (zB) hb); clear HO_12 HO_109000 HO_121000 HO_138000 BK108 BK120 BK137 HB; obtain ⟨HO_12, HO_109000, HO_121000, HO_138000, HO149, HO152, BK108, BK120, BK137, HB⟩ := n_; (try clear hb); (try clear hb2); (try clear hk); (try clear hi); (try clear ho0); (try clear ho1)) | ((with_reducible refine gate_dst (N := 23) rfl ?_); refine box_event zr (N := 23) zr (cs := #[.slice none 0 0]) (t := 26) zg ?_; intro gb154 hg w60 hbox hb; have n0_ := Aside0.mk (Kd.R_below (zR HO_12.out) hb); have n1_ := Aside0.mk (Kd.R_below (zR HO_109000.out) hb); have n2_ := Aside0.mk (Kd.R_below (zR HO_121000.out) hb); have n3_ := Aside0.mk (Kd.R_below (zR HO_138000.out) hb); have n4_ := Aside0.mk (Kd.R_below (zR HO149.out) hb); have n5_ := Aside0.mk (Kd.R_below (zR HO152.out) hb); have n6_ := Aside0.mk (zb BK108.out hb); have n7_ := Aside0.mk (zb BK120.out hb); have n8_ := Aside0.mk (zb BK137.out hb); have n9_ := Aside0.mk (below_step (zB) hb); have n10_ := Aside0.mk (hbox); have n11_ := Aside0.mk ((zS hg : w.heap.size ≤ gb154)); have n12_ := Aside0.mk ((zS hg : w.heap.size ≤ gb154)); have n13_ := Aside0.mk ((zL hg BK108.out : gb108 ≠ gb154)); have n14_ := Aside0.mk ((zM hg BK108.out : gb154 ≠ gb108)); have n15_ := Aside0.mk ((zL hg BK120.out : gb120 ≠ gb154)); have n16_ := Aside0.mk ((zM hg BK120.out : gb154 ≠ gb120)); have n17_ := Aside0.mk ((zL hg BK137.out : gb137 ≠ gb154)); have n18_ := Aside0.mk ((zM hg BK137.out : gb154 ≠ gb137)); clear HO_12; clear HO_109000; clear HO_121000; clear HO_138000; clear HO149; clear HO152; clear BK108; clear BK120; clear BK137; clear HB; have HO_12 := n0_; have HO_109000 := n1_; have HO_121000 := n2_; have HO_138000 := n3_; have HO149 := n4_; have HO152 := n5_; have BK108 := n6_; have BK120 := n7_; have BK137 := n8_; have HB := n9_; have BK154 := n10_; have GW154 := n11_; have GE154 := n12_; have NB108_154 := n13_; have NB154_108 := n14_; have NB120_154 := n15_; have NB154_120 := n16_; have NB137_154 := n17_; have NB154_137 := n18_; clear n0_ n1_ n2_ n3_ n4_ n5_ n6_ n7_ n8_ n9_ n10_ n11_ n12_ n13_ n14_ n15_ n16_ n17_ n18_; clear hb hbox hg; obtain ⟨Ao61, co61, eo61⟩ := Kd.R_slice HO149.out; subst eo61; have hnb62 := NB154_108.out; have hnc62 := NB108_154.out; have hnb63 := NB154_120.out; have hnc63 := NB120_154.out; have hnb64 := NB154_137.out; have hnc64 := NB137_154.out; have hcz65_0 := zc BK154.out; have hfz65_0 := blk_frozen BK154.out 0; obtain ⟨Ao66, co66, eo66⟩ := Kd.R_slice HO152.out; subst eo66) | ((with_reducible refine gate_callee (f := 16) rfl ?_); refine goesL_ (some 133) rfl rfl Try.func16 zk rfl #[.agg #[.slice Ao61 t147.length co61], .slice Ao66 t150.length co66, .int .i64 t153] rfl zA ?_; (with_reducible refine (impl_CutBySpeed.calls _ _ t147 _ _ t150 t153 t155 t156 _ ?side1 ?side2 ?side3 ?side4 A56.out).mono ?_); (case side1 => refine (Kd.R_reads' (e := 2) (base := w.heap.size) (ok := fun k_ => ((((some k_ ≠ (.slice Ao66 t150.length co66 : Value).ownBlock ∧ some k_ ≠ (v122 : Value).ownBlock) ∧ some k_ ≠ (.slice Ao10 t102.length co10 : Value).ownBlock) ∧ some k_ ≠ (.slice Ao24 t113.length co24 : Value).ownBlock) ∧ some k_ ≠ (.slice Ao42 t130.length co42 : Value).ownBlock)) (n := t147.length) (c := co61) ?_).2.2; exact (by refine zR ?_; exact (Kd.R_mono (Kd.R_far (p := ⟨gb154, 0, none⟩) (Kd.R_types HO149.out BK154.out (by decide)) (fun _ hk => hk.2) (.slice Ao61 t147.length co61)) (fun _ h_ => h_.1)))); (case side2 => exact (Kd.R_reads' HO149.out).2.1); (case side3 => refine (Kd.R_reads' (e := 2) (base := w.heap.size) (ok := fun k_ => ((((some k_ ≠ (.slice Ao61 t147.length co61 : Value).ownBlock ∧ some k_ ≠ (v122 : Value).ownBlock) ∧ some k_ ≠ (.slice Ao10 t102.length co10 : Value).ownBlock) ∧ some k_ ≠ (.slice Ao24 t113.length co24 : Value).ownBlock) ∧ some k_ ≠ (.slice Ao42 t130.length co42 : Value).ownBlock)) (n := t150.length) (c := co66) ?_).2.2; exact (by refine zR ?_; exact (Kd.R_mono (Kd.R_far (p := ⟨gb154, 0, none⟩) (Kd.R_types HO152.out BK154.out (by decide)) (fun _ hk => hk.2) (.slice Ao61 t147.length co61)) (fun _ h_ => h_.1)))); (case side4 => exact (Kd.R_reads' HO152.out).2.1); rintro e w67 ⟨rfl, hb⟩; refine ⟨_, rfl, ?_⟩; have n_ := y11 (Kd.R_below (by refine zR ?_; exact (Kd.R_mono (Kd.R_far (p := ⟨gb154, 0, none⟩) (Kd.R_types HO_12.out BK154.out (by decide)) (fun _ hk => hk.2) (.slice Ao61 t147.length co61)) (fun _ h_ => h_.1))) hb) (Kd.R_below (by refine zR ?_; exact (Kd.R_mono (Kd.R_far (p := ⟨gb154, 0, none⟩) (Kd.R_types HO_109000.out BK154.out (by decide)) (fun _ hk => hk.2) (.slice Ao61 t147.length co61)) (fun _ h_ => h_.1))) hb) (Kd.R_below (by refine zR ?_; exact (Kd.R_mono (Kd.R_far (p := ⟨gb154, 0, none⟩) (Kd.R_types HO_121000.out BK154.out (by decide)) (fun _ hk => hk.2) (.slice Ao61 t147.length co61)) (fun _ h_ => h_.1))) hb) (Kd.R_below (by refine zR ?_; exact (Kd.R_mono (Kd.R_far (p := ⟨gb154, 0, none⟩) (Kd.R_types HO_138000.out BK154.out (by decide)) (fun _ hk => hk.2) (.slice Ao61 t147.length co61)) (fun _ h_ => h_.1))) hb) (Kd.R_below (by refine zR ?_; exact (Kd.R_mono (Kd.R_far (p := ⟨gb154, 0, none⟩) (Kd.R_types HO149.out BK154.out (by decide)) (fun _ hk => hk.2) (.slice Ao61 t147.length co61)) (fun _ h_ => h_.1))) hb) (Kd.R_below (by refine zR ?_; exact (Kd.R_mono (Kd.R_far (p := ⟨gb154, 0, none⟩) (Kd.R_types HO152.out BK154.out (by decide)) (fun _ hk => hk.2) (.slice Ao61 t147.length co61)) (fun _ h_ => h_.1))) hb) (blk_below (g := gb108) (o := .cells #[.slice Ao10 t102.length co10] 26 (0, 0)) (by refine zG ?_; refine blk_far ?_ NB108_154.out _; refine zG ?_; exact BK108.out) hb) (blk_below (g := gb120) (o := .cells #[.slice Ao24 t113.length co24] 26 (0, 0)) (by refine zG ?_; refine blk_far ?_ NB120_154.out _; refine zG ?_; exact BK120.out) hb) (blk_below (g := gb137) (o := .cells #[.slice Ao42 t130.length co42] 26 (0, 0)) (by refine zG ?_; refine blk_far ?_ NB137_154.out _; refine zG ?_; exact BK137.out) hb) (blk_below (g := gb154) (o := .cells #[.slice Ao61 t147.length co61] 26 (0, 0)) (by refine zG ?_; refine blk_put (cs := #[.slice none 0 0]) ?_ 0 _ rfl; refine zG ?_; exact BK154.out) hb) (below_step (zB) hb); clear HO_12 HO_109000 HO_121000 HO_138000 HO149 HO152 BK108 BK120 BK137 BK154 HB; obtain ⟨HO_12, HO_109000, HO_121000, HO_138000, HO149, HO152, BK108, BK120, BK137, BK154, HB⟩ := n_; (try clear hb); (try clear hb2); (try clear hk); (try clear hi); have hcz68_0 := zc BK154.out; have hfz68_0 := blk_frozen BK154.out 0) | ((with_reducible refine gate_callee (f := 17) rfl ?_); refine goesL_ (some 140) rfl rfl Try.func17 zk rfl #[.agg #[.slice Ao61 t147.length co61], .slice Ao66 t150.length co66, .int .i64 t153] rfl zA ?_; (with_reducible refine (spec_CutBySpeed.calls kj38 _ _ t147 _ _ t150 t153 t157 t158 _ ?side1 ?side2 ?side3 ?side4 A57.out).mono ?_); (case side1 => exact zC (Kd.R_reads' HO149.out).2.2); (case side2 => exact (Kd.R_reads' HO149.out).2.1); (case side3 => exact zC (Kd.R_reads' HO152.out).2.2); (case side4 => exact (Kd.R_reads' HO152.out).2.1); rintro e w69 ⟨rfl, hb⟩; refine ⟨_, rfl, ?_⟩; have n_ := y11 (Kd.R_below (zR HO_12.out) hb) (Kd.R_below (zR HO_109000.out) hb) (Kd.R_below (zR HO_121000.out) hb) (Kd.R_below (zR HO_138000.out) hb) (Kd.R_below (zR HO149.out) hb) (Kd.R_below (zR HO152.out) hb) (zb BK108.out hb) (zb BK120.out hb) (zb BK137.out hb) (zb BK154.out hb) (below_step (zB) hb); clear HO_12 HO_109000 HO_121000 HO_138000 HO149 HO152 BK108 BK120 BK137 BK154 HB; obtain ⟨HO_12, HO_109000, HO_121000, HO_138000, HO149, HO152, BK108, BK120, BK137, BK154, HB⟩ := n_; (try clear hb); (try clear hb2); (try clear hk); (try clear hi)))
                     (try simp only [Act.put, List.setIfInBounds_toArray, List.set_cons_zero, List.set_cons_succ])
                     go_cut [150] (fun u150_ wc => ∃ (kq : Nat) (x150_57 : Bool), u150_ = .bool x150_57 ∧ Aside0 (laws_FnGardens.j3 kq t109 t110 t119 t121 t124 t150 t153 t155 t156 x150_57 t102 t147 = some r) ∧ Aside0 (kq ≤ kj38) ∧ Aside0 (Kd.R (Kd.int .i64) 2 wc w.heap.size (fun k_ => some k_ ≠ ((.slice Ao66 t150.length co66) : Value).ownBlock ∧ some k_ ≠ ((.slice Ao10 t102.length co10) : Value).ownBlock ∧ some k_ ≠ ((.slice Ao24 t113.length co24) : Value).ownBlock ∧ some k_ ≠ ((.slice Ao42 t130.length co42) : Value).ownBlock ∧ some k_ ≠ ((.slice Ao61 t147.length co61) : Value).ownBlock) v122 t121) ∧ Aside0 (Kd.R (Kd.int .i64) 2 wc w.heap.size (fun k_ => some k_ ≠ (v122 : Value).ownBlock ∧ some k_ ≠ ((.slice Ao10 t102.length co10) : Value).ownBlock ∧ some k_ ≠ ((.slice Ao24 t113.length co24) : Value).ownBlock ∧ some k_ ≠ ((.slice Ao42 t130.length co42) : Value).ownBlock ∧ some k_ ≠ ((.slice Ao61 t147.length co61) : Value).ownBlock) (.slice Ao66 t150.length co66) t150) ∧ Aside0 (Kd.R (Kd.int .i64) 2 wc w.heap.size (fun k_ => some k_ ≠ (v122 : Value).ownBlock ∧ some k_ ≠ ((.slice Ao66 t150.length co66) : Value).ownBlock ∧ some k_ ≠ ((.slice Ao24 t113.length co24) : Value).ownBlock ∧ some k_ ≠ ((.slice Ao42 t130.length co42) : Value).ownBlock ∧ some k_ ≠ ((.slice Ao61 t147.length co61) : Value).ownBlock) (.slice Ao10 t102.length co10) t102) ∧ Aside0 (Kd.R (Kd.int .i64) 2 wc w.heap.size (fun k_ => some k_ ≠ (v122 : Value).ownBlock ∧ some k_ ≠ ((.slice Ao66 t150.length co66) : Value).ownBlock ∧ some k_ ≠ ((.slice Ao10 t102.length co10) : Value).ownBlock ∧ some k_ ≠ ((.slice Ao42 t130.length co42) : Value).ownBlock ∧ some k_ ≠ ((.slice Ao61 t147.length co61) : Value).ownBlock) (.slice Ao24 t113.length co24) t113) ∧ Aside0 (Kd.R (Kd.int .i64) 2 wc w.heap.size (fun k_ => some k_ ≠ (v122 : Value).ownBlock ∧ some k_ ≠ ((.slice Ao66 t150.length co66) : Value).ownBlock ∧ some k_ ≠ ((.slice Ao10 t102.length co10) : Value).ownBlock ∧ some k_ ≠ ((.slice Ao24 t113.length co24) : Value).ownBlock ∧ some k_ ≠ ((.slice Ao61 t147.length co61) : Value).ownBlock) (.slice Ao42 t130.length co42) t130) ∧ Aside0 (Kd.R (Kd.int .i64) 2 wc w.heap.size (fun k_ => some k_ ≠ (v122 : Value).ownBlock ∧ some k_ ≠ ((.slice Ao66 t150.length co66) : Value).ownBlock ∧ some k_ ≠ ((.slice Ao10 t102.length co10) : Value).ownBlock ∧ some k_ ≠ ((.slice Ao24 t113.length co24) : Value).ownBlock ∧ some k_ ≠ ((.slice Ao42 t130.length co42) : Value).ownBlock) (.slice Ao61 t147.length co61) t147) ∧ Aside0 (wc.heap[gb108]? = some (.cells #[(.slice Ao10 t102.length co10)] 26 (0, 0))) ∧ Aside0 (wc.heap[gb120]? = some (.cells #[(.slice Ao24 t113.length co24)] 26 (0, 0))) ∧ Aside0 (wc.heap[gb137]? = some (.cells #[(.slice Ao42 t130.length co42)] 26 (0, 0))) ∧ Aside0 (wc.heap[gb154]? = some (.cells #[(.slice Ao61 t147.length co61)] 26 (0, 0))) ∧ Aside0 (Below w.heap.size w wc))
                     case first =>
                       as_aux_lemma =>
                        have H := HC58.out
                        clear HC58
                        by_cases c70 : t156 = t158
                        · rw [if_pos c70] at H
                          have c70b0 : (t156 == t158) = true := beq_iff_eq.mpr c70
                          have c70b1 : (t156 != t158) = false := bne_eq_false_iff_eq.mpr c70
                          clear c70
                          (first | rw [c70b0] | (simp only [i64_w, i32_w]; rw [c70b0]) | skip)
                          have H' := Aside0.mk H
                          clear H
                          go_wp2
                          go_meet
                          case rel => exact ⟨_, ((t155 != t157)), zF, H', ⟨by have := HJ6.out; have := HJ20.out; have := HJ38.out; first | omega | exact Nat.le_refl _⟩, ⟨by refine zR ?_; exact Kd.R_mono HO_12.out (fun _ hk => ⟨hk.2, ⟨hk.1.1.1, ⟨hk.1.1.2.1, ⟨hk.1.1.2.2, hk.1.2⟩⟩⟩⟩)⟩, ⟨by refine zR ?_; exact Kd.R_mono HO152.out (fun _ hk => ⟨hk.1.1.1.2, ⟨hk.1.1.2, ⟨hk.1.2, ⟨hk.2, hk.1.1.1.1⟩⟩⟩⟩)⟩, ⟨by refine zR ?_; exact Kd.R_mono HO_109000.out (fun _ hk => ⟨hk.1.1.1, ⟨hk.2, ⟨hk.1.1.2.1, ⟨hk.1.1.2.2, hk.1.2⟩⟩⟩⟩)⟩, ⟨by refine zR ?_; exact Kd.R_mono HO_121000.out (fun _ hk => ⟨hk.1.1.1, ⟨hk.2, ⟨hk.1.1.2.1, ⟨hk.1.1.2.2, hk.1.2⟩⟩⟩⟩)⟩, ⟨by refine zR ?_; exact Kd.R_mono HO_138000.out (fun _ hk => ⟨hk.1.1.1, ⟨hk.2, ⟨hk.1.1.2.1, ⟨hk.1.1.2.2, hk.1.2⟩⟩⟩⟩)⟩, ⟨by refine zR ?_; exact Kd.R_mono HO149.out (fun _ hk => ⟨hk.1.1.1.2, ⟨hk.1.1.1.1, ⟨hk.1.1.2, ⟨hk.1.2, hk.2⟩⟩⟩⟩)⟩, ⟨zG BK108.out⟩, ⟨zG BK120.out⟩, ⟨zG BK137.out⟩, ⟨zG BK154.out⟩, ⟨zB⟩⟩
                        · rw [if_neg c70] at H
                          have c70b0 : (t156 == t158) = false := beq_eq_false_iff_ne.mpr c70
                          have c70b1 : (t156 != t158) = true := bne_iff_ne.mpr c70
                          (first | rw [c70b0] | (simp only [i64_w, i32_w]; rw [c70b0]) | skip)
                          have H' := Aside0.mk H
                          clear H
                          go_wp2
                          go_meet
                          case rel => exact ⟨_, (true), zF, H', ⟨by have := HJ6.out; have := HJ20.out; have := HJ38.out; first | omega | exact Nat.le_refl _⟩, ⟨by refine zR ?_; exact Kd.R_mono HO_12.out (fun _ hk => ⟨hk.2, ⟨hk.1.1.1, ⟨hk.1.1.2.1, ⟨hk.1.1.2.2, hk.1.2⟩⟩⟩⟩)⟩, ⟨by refine zR ?_; exact Kd.R_mono HO152.out (fun _ hk => ⟨hk.1.1.1.2, ⟨hk.1.1.2, ⟨hk.1.2, ⟨hk.2, hk.1.1.1.1⟩⟩⟩⟩)⟩, ⟨by refine zR ?_; exact Kd.R_mono HO_109000.out (fun _ hk => ⟨hk.1.1.1, ⟨hk.2, ⟨hk.1.1.2.1, ⟨hk.1.1.2.2, hk.1.2⟩⟩⟩⟩)⟩, ⟨by refine zR ?_; exact Kd.R_mono HO_121000.out (fun _ hk => ⟨hk.1.1.1, ⟨hk.2, ⟨hk.1.1.2.1, ⟨hk.1.1.2.2, hk.1.2⟩⟩⟩⟩)⟩, ⟨by refine zR ?_; exact Kd.R_mono HO_138000.out (fun _ hk => ⟨hk.1.1.1, ⟨hk.2, ⟨hk.1.1.2.1, ⟨hk.1.1.2.2, hk.1.2⟩⟩⟩⟩)⟩, ⟨by refine zR ?_; exact Kd.R_mono HO149.out (fun _ hk => ⟨hk.1.1.1.2, ⟨hk.1.1.1.1, ⟨hk.1.1.2, ⟨hk.1.2, hk.2⟩⟩⟩⟩)⟩, ⟨zG BK108.out⟩, ⟨zG BK120.out⟩, ⟨zG BK137.out⟩, ⟨zG BK154.out⟩, ⟨zB⟩⟩
                     case rest =>
                       as_aux_lemma =>
                        clear HC58
                        try clear c3
                        try clear c17
                        try clear c35
                        try clear c54
                        try clear hcz11_0
                        try clear hcz14_0
                        try clear hcz26_0
                        try clear hcz29_0
                        try clear hcz45_0
                        try clear hcz48_0
                        try clear hcz65_0
                        try clear hcz68_0
                        try clear hfz11_0
                        try clear hfz14_0
                        try clear hfz26_0
                        try clear hfz29_0
                        try clear hfz45_0
                        try clear hfz48_0
                        try clear hfz65_0
                        try clear hfz68_0
                        obtain ⟨kq, x150_57, rfl, HA, HJ57, HO_12, HO_24, HO_109000, HO_121000, HO_138000, HO_155000, BK108, BK120, BK137, BK154, HB⟩ := hcut
                        cases kq with
                        | zero => exact absurd HA.out (by simp [laws_FnGardens.j3])
                        | succ kj57 =>
                          have H := HA.out
                          clear HA
                          simp only [laws_FnGardens.j3] at H
                          by_cases c71 : x150_57 = true
                          · subst c71
                            have H1 : (some false) = some r := by rw [if_pos rfl] at H; exact H
                            clear H
                            have H := H1
                            clear H1
                            obtain rfl := Option.some.inj H
                            go_wp2
                            go_ret
                            exact ⟨zE, zB⟩
                          · replace c71 := Bool.eq_false_iff.mpr c71
                            subst c71
                            have H1 : ((impl_CutByHeight.f kj57 t147 t150).bind fun bt159 => ((spec_CutByHeight.f kj57 t147 t150).bind fun bt161 => (if bt159.2 = bt161.2 then (laws_FnGardens.j4 kj57 t109 t110 t119 t121 t124 t150 t153 t155 t156 bt159.1 bt159.2 (bt159.1 != bt161.1) t102) else (laws_FnGardens.j4 kj57 t109 t110 t119 t121 t124 t150 t153 t155 t156 bt159.1 bt159.2 true t102)))) = some r := by rw [if_neg (show ¬ (false = true) by decide)] at H; exact H
                            clear H
                            have H := H1
                            clear H1
                            replace H := Option.bind_eq_some_iff.mp H
                            obtain ⟨⟨t159, t160⟩, A720, H⟩ := H
                            replace H : ((spec_CutByHeight.f kj57 t147 t150).bind fun bt161 => (if t160 = bt161.2 then (laws_FnGardens.j4 kj57 t109 t110 t119 t121 t124 t150 t153 t155 t156 t159 t160 (t159 != bt161.1) t102) else (laws_FnGardens.j4 kj57 t109 t110 t119 t121 t124 t150 t153 t155 t156 t159 t160 true t102))) = some r := H
                            have A72 := Aside0.mk A720
                            clear A720
                            replace H := Option.bind_eq_some_iff.mp H
                            obtain ⟨⟨t161, t162⟩, A730, H⟩ := H
                            replace H : (if t160 = t162 then (laws_FnGardens.j4 kj57 t109 t110 t119 t121 t124 t150 t153 t155 t156 t159 t160 (t159 != t161) t102) else (laws_FnGardens.j4 kj57 t109 t110 t119 t121 t124 t150 t153 t155 t156 t159 t160 true t102)) = some r := H
                            have A73 := Aside0.mk A730
                            clear A730
                            have HC74 := Aside0.mk H
                            clear H
                            have hnb75 := NB154_108.out
                            have hnc75 := NB108_154.out
                            have hnb76 := NB154_120.out
                            have hnc76 := NB120_154.out
                            have hnb77 := NB154_137.out
                            have hnc77 := NB137_154.out
                            have hcz78_0 := zc BK154.out
                            have hfz78_0 := blk_frozen BK154.out 0
                            go_upto_region 25 with (first | ((with_reducible refine gate_callee (f := 18) rfl ?_); refine goesL_ (some 154) rfl rfl Try.func18 zk rfl #[.agg #[.slice Ao61 t147.length co61], .slice Ao66 t150.length co66] rfl zA ?_; (with_reducible refine (impl_CutByHeight.calls kj57 _ _ t147 _ _ t150 t159 t160 _ ?side1 ?side2 ?side3 ?side4 A72.out).mono ?_); (case side1 => exact zC (Kd.R_reads' HO_155000.out).2.2); (case side2 => exact (Kd.R_reads' HO_155000.out).2.1); (case side3 => exact zC (Kd.R_reads' HO_24.out).2.2); (case side4 => exact (Kd.R_reads' HO_24.out).2.1); rintro e w79 ⟨rfl, hb⟩; refine ⟨_, rfl, ?_⟩; have n_ := y11 (Kd.R_below (zR HO_12.out) hb) (Kd.R_below (zR HO_24.out) hb) (Kd.R_below (zR HO_109000.out) hb) (Kd.R_below (zR HO_121000.out) hb) (Kd.R_below (zR HO_138000.out) hb) (Kd.R_below (zR HO_155000.out) hb) (zb BK108.out hb) (zb BK120.out hb) (zb BK137.out hb) (zb BK154.out hb) (below_step (zB) hb); clear HO_12 HO_24 HO_109000 HO_121000 HO_138000 HO_155000 BK108 BK120 BK137 BK154 HB; obtain ⟨HO_12, HO_24, HO_109000, HO_121000, HO_138000, HO_155000, BK108, BK120, BK137, BK154, HB⟩ := n_; (try clear hb); (try clear hb2); (try clear hk); (try clear hi); have hcz80_0 := zc BK154.out; have hfz80_0 := blk_frozen BK154.out 0) | ((with_reducible refine gate_callee (f := 19) rfl ?_); refine goesL_ (some 160) rfl rfl Try.func19 zk rfl #[.agg #[.slice Ao61 t147.length co61], .slice Ao66 t150.length co66] rfl zA ?_; (with_reducible refine (spec_CutByHeight.calls kj57 _ _ t147 _ _ t150 t161 t162 _ ?side1 ?side2 ?side3 ?side4 A73.out).mono ?_); (case side1 => exact zC (Kd.R_reads' HO_155000.out).2.2); (case side2 => exact (Kd.R_reads' HO_155000.out).2.1); (case side3 => exact zC (Kd.R_reads' HO_24.out).2.2); (case side4 => exact (Kd.R_reads' HO_24.out).2.1); rintro e w81 ⟨rfl, hb⟩; refine ⟨_, rfl, ?_⟩; have n_ := y11 (Kd.R_below (zR HO_12.out) hb) (Kd.R_below (zR HO_24.out) hb) (Kd.R_below (zR HO_109000.out) hb) (Kd.R_below (zR HO_121000.out) hb) (Kd.R_below (zR HO_138000.out) hb) (Kd.R_below (zR HO_155000.out) hb) (zb BK108.out hb) (zb BK120.out hb) (zb BK137.out hb) (zb BK154.out hb) (below_step (zB) hb); clear HO_12 HO_24 HO_109000 HO_121000 HO_138000 HO_155000 BK108 BK120 BK137 BK154 HB; obtain ⟨HO_12, HO_24, HO_109000, HO_121000, HO_138000, HO_155000, BK108, BK120, BK137, BK154, HB⟩ := n_; (try clear hb); (try clear hb2); (try clear hk); (try clear hi)))
                            (try simp only [Act.put, List.setIfInBounds_toArray, List.set_cons_zero, List.set_cons_succ])
                            go_cut [170] (fun u170_ wc => ∃ (kq : Nat) (x170_73 : Bool), u170_ = .bool x170_73 ∧ Aside0 (laws_FnGardens.j4 kq t109 t110 t119 t121 t124 t150 t153 t155 t156 t159 t160 x170_73 t102 = some r) ∧ Aside0 (kq ≤ kj57) ∧ Aside0 (Kd.R (Kd.int .i64) 2 wc w.heap.size (fun k_ => some k_ ≠ ((.slice Ao66 t150.length co66) : Value).ownBlock ∧ some k_ ≠ ((.slice Ao10 t102.length co10) : Value).ownBlock ∧ some k_ ≠ ((.slice Ao24 t113.length co24) : Value).ownBlock ∧ some k_ ≠ ((.slice Ao42 t130.length co42) : Value).ownBlock ∧ some k_ ≠ ((.slice Ao61 t147.length co61) : Value).ownBlock) v122 t121) ∧ Aside0 (Kd.R (Kd.int .i64) 2 wc w.heap.size (fun k_ => some k_ ≠ (v122 : Value).ownBlock ∧ some k_ ≠ ((.slice Ao10 t102.length co10) : Value).ownBlock ∧ some k_ ≠ ((.slice Ao24 t113.length co24) : Value).ownBlock ∧ some k_ ≠ ((.slice Ao42 t130.length co42) : Value).ownBlock ∧ some k_ ≠ ((.slice Ao61 t147.length co61) : Value).ownBlock) (.slice Ao66 t150.length co66) t150) ∧ Aside0 (Kd.R (Kd.int .i64) 2 wc w.heap.size (fun k_ => some k_ ≠ (v122 : Value).ownBlock ∧ some k_ ≠ ((.slice Ao66 t150.length co66) : Value).ownBlock ∧ some k_ ≠ ((.slice Ao24 t113.length co24) : Value).ownBlock ∧ some k_ ≠ ((.slice Ao42 t130.length co42) : Value).ownBlock ∧ some k_ ≠ ((.slice Ao61 t147.length co61) : Value).ownBlock) (.slice Ao10 t102.length co10) t102) ∧ Aside0 (Kd.R (Kd.int .i64) 2 wc w.heap.size (fun k_ => some k_ ≠ (v122 : Value).ownBlock ∧ some k_ ≠ ((.slice Ao66 t150.length co66) : Value).ownBlock ∧ some k_ ≠ ((.slice Ao10 t102.length co10) : Value).ownBlock ∧ some k_ ≠ ((.slice Ao42 t130.length co42) : Value).ownBlock ∧ some k_ ≠ ((.slice Ao61 t147.length co61) : Value).ownBlock) (.slice Ao24 t113.length co24) t113) ∧ Aside0 (Kd.R (Kd.int .i64) 2 wc w.heap.size (fun k_ => some k_ ≠ (v122 : Value).ownBlock ∧ some k_ ≠ ((.slice Ao66 t150.length co66) : Value).ownBlock ∧ some k_ ≠ ((.slice Ao10 t102.length co10) : Value).ownBlock ∧ some k_ ≠ ((.slice Ao24 t113.length co24) : Value).ownBlock ∧ some k_ ≠ ((.slice Ao61 t147.length co61) : Value).ownBlock) (.slice Ao42 t130.length co42) t130) ∧ Aside0 (Kd.R (Kd.int .i64) 2 wc w.heap.size (fun k_ => some k_ ≠ (v122 : Value).ownBlock ∧ some k_ ≠ ((.slice Ao66 t150.length co66) : Value).ownBlock ∧ some k_ ≠ ((.slice Ao10 t102.length co10) : Value).ownBlock ∧ some k_ ≠ ((.slice Ao24 t113.length co24) : Value).ownBlock ∧ some k_ ≠ ((.slice Ao42 t130.length co42) : Value).ownBlock) (.slice Ao61 t147.length co61) t147) ∧ Aside0 (wc.heap[gb108]? = some (.cells #[(.slice Ao10 t102.length co10)] 26 (0, 0))) ∧ Aside0 (wc.heap[gb120]? = some (.cells #[(.slice Ao24 t113.length co24)] 26 (0, 0))) ∧ Aside0 (wc.heap[gb137]? = some (.cells #[(.slice Ao42 t130.length co42)] 26 (0, 0))) ∧ Aside0 (wc.heap[gb154]? = some (.cells #[(.slice Ao61 t147.length co61)] 26 (0, 0))) ∧ Aside0 (Below w.heap.size w wc))
                            case first =>
                              as_aux_lemma =>
                               have H := HC74.out
                               clear HC74
                               by_cases c82 : t160 = t162
                               · rw [if_pos c82] at H
                                 have c82b0 : (t160 == t162) = true := beq_iff_eq.mpr c82
                                 have c82b1 : (t160 != t162) = false := bne_eq_false_iff_eq.mpr c82
                                 clear c82
                                 (first | rw [c82b0] | (simp only [i64_w, i32_w]; rw [c82b0]) | skip)
                                 have H' := Aside0.mk H
                                 clear H
                                 go_wp2
                                 go_meet
                                 case rel => exact ⟨_, ((t159 != t161)), zF, H', ⟨by have := HJ6.out; have := HJ20.out; have := HJ38.out; have := HJ57.out; first | omega | exact Nat.le_refl _⟩, ⟨zR HO_12.out⟩, ⟨zR HO_24.out⟩, ⟨zR HO_109000.out⟩, ⟨zR HO_121000.out⟩, ⟨zR HO_138000.out⟩, ⟨zR HO_155000.out⟩, ⟨zG BK108.out⟩, ⟨zG BK120.out⟩, ⟨zG BK137.out⟩, ⟨zG BK154.out⟩, ⟨zB⟩⟩
                               · rw [if_neg c82] at H
                                 have c82b0 : (t160 == t162) = false := beq_eq_false_iff_ne.mpr c82
                                 have c82b1 : (t160 != t162) = true := bne_iff_ne.mpr c82
                                 (first | rw [c82b0] | (simp only [i64_w, i32_w]; rw [c82b0]) | skip)
                                 have H' := Aside0.mk H
                                 clear H
                                 go_wp2
                                 go_meet
                                 case rel => exact ⟨_, (true), zF, H', ⟨by have := HJ6.out; have := HJ20.out; have := HJ38.out; have := HJ57.out; first | omega | exact Nat.le_refl _⟩, ⟨zR HO_12.out⟩, ⟨zR HO_24.out⟩, ⟨zR HO_109000.out⟩, ⟨zR HO_121000.out⟩, ⟨zR HO_138000.out⟩, ⟨zR HO_155000.out⟩, ⟨zG BK108.out⟩, ⟨zG BK120.out⟩, ⟨zG BK137.out⟩, ⟨zG BK154.out⟩, ⟨zB⟩⟩
                            case rest =>
                              as_aux_lemma =>
                               clear HC74
                               try clear c3
                               try clear c17
                               try clear c35
                               try clear c54
                               try clear c71
                               try clear hcz11_0
                               try clear hcz14_0
                               try clear hcz26_0
                               try clear hcz29_0
                               try clear hcz45_0
                               try clear hcz48_0
                               try clear hcz65_0
                               try clear hcz68_0
                               try clear hcz78_0
                               try clear hcz80_0
                               try clear hfz11_0
                               try clear hfz14_0
                               try clear hfz26_0
                               try clear hfz29_0
                               try clear hfz45_0
                               try clear hfz48_0
                               try clear hfz65_0
                               try clear hfz68_0
                               try clear hfz78_0
                               try clear hfz80_0
                               obtain ⟨kq, x170_73, rfl, HA, HJ73, HO_12, HO_24, HO_109000, HO_121000, HO_138000, HO_155000, BK108, BK120, BK137, BK154, HB⟩ := hcut
                               cases kq with
                               | zero => exact absurd HA.out (by simp [laws_FnGardens.j4])
                               | succ kj73 =>
                                 have H := HA.out
                                 clear HA
                                 simp only [laws_FnGardens.j4] at H
                                 by_cases c83 : x170_73 = true
                                 · subst c83
                                   have H1 : (some false) = some r := by rw [if_pos rfl] at H; exact H
                                   clear H
                                   have H := H1
                                   clear H1
                                   obtain rfl := Option.some.inj H
                                   go_wp2
                                   go_ret
                                   exact ⟨zE, zB⟩
                                 · replace c83 := Bool.eq_false_iff.mpr c83
                                   subst c83
                                   have H1 : ((impl_SumOfRates.f kj73 t102).bind fun bt163 => ((spec_SumOfRates.f kj73 t102).bind fun bt165 => (if bt163.2 = bt165.2 then (if bt163.1 = bt165.1 then ((impl_IsGarden.f t102).bind fun t167 => ((spec_IsGarden.f kj73 t102).bind fun t168 => (laws_FnGardens.j5 kj73 t109 t110 t119 t121 t124 t150 t153 t155 t156 t159 t160 bt163.1 bt163.2 (t167 != t168)))) else (laws_FnGardens.j5 kj73 t109 t110 t119 t121 t124 t150 t153 t155 t156 t159 t160 bt163.1 bt163.2 true)) else (laws_FnGardens.j5 kj73 t109 t110 t119 t121 t124 t150 t153 t155 t156 t159 t160 bt163.1 bt163.2 true)))) = some r := by rw [if_neg (show ¬ (false = true) by decide)] at H; exact H
                                   clear H
                                   have H := H1
                                   clear H1
                                   replace H := Option.bind_eq_some_iff.mp H
                                   obtain ⟨⟨t163, t164⟩, A840, H⟩ := H
                                   replace H : ((spec_SumOfRates.f kj73 t102).bind fun bt165 => (if t164 = bt165.2 then (if t163 = bt165.1 then ((impl_IsGarden.f t102).bind fun t167 => ((spec_IsGarden.f kj73 t102).bind fun t168 => (laws_FnGardens.j5 kj73 t109 t110 t119 t121 t124 t150 t153 t155 t156 t159 t160 t163 t164 (t167 != t168)))) else (laws_FnGardens.j5 kj73 t109 t110 t119 t121 t124 t150 t153 t155 t156 t159 t160 t163 t164 true)) else (laws_FnGardens.j5 kj73 t109 t110 t119 t121 t124 t150 t153 t155 t156 t159 t160 t163 t164 true))) = some r := H
                                   have A84 := Aside0.mk A840
                                   clear A840
                                   replace H := Option.bind_eq_some_iff.mp H
                                   obtain ⟨⟨t165, t166⟩, A850, H⟩ := H
                                   replace H : (if t164 = t166 then (if t163 = t165 then ((impl_IsGarden.f t102).bind fun t167 => ((spec_IsGarden.f kj73 t102).bind fun t168 => (laws_FnGardens.j5 kj73 t109 t110 t119 t121 t124 t150 t153 t155 t156 t159 t160 t163 t164 (t167 != t168)))) else (laws_FnGardens.j5 kj73 t109 t110 t119 t121 t124 t150 t153 t155 t156 t159 t160 t163 t164 true)) else (laws_FnGardens.j5 kj73 t109 t110 t119 t121 t124 t150 t153 t155 t156 t159 t160 t163 t164 true)) = some r := H
                                   have A85 := Aside0.mk A850
                                   clear A850
                                   have HC86 := Aside0.mk H
                                   clear H
                                   have hnb87 := NB108_120.out
                                   have hnc87 := NB120_108.out
                                   have hnb88 := NB108_137.out
                                   have hnc88 := NB137_108.out
                                   have hnb89 := NB108_154.out
                                   have hnc89 := NB154_108.out
                                   have hcz90_0 := zc BK108.out
                                   have hfz90_0 := blk_frozen BK108.out 0
                                   go_upto_region 29 with (first | ((with_reducible refine gate_callee (f := 20) rfl ?_); refine goesL_ (some 173) rfl rfl Try.func20 zk rfl #[.agg #[.slice Ao10 t102.length co10]] rfl zA ?_; (with_reducible refine (impl_SumOfRates.calls kj73 _ _ t102 t163 t164 _ ?side1 ?side2 A84.out).mono ?_); (case side1 => exact zC (Kd.R_reads' HO_109000.out).2.2); (case side2 => exact (Kd.R_reads' HO_109000.out).2.1); rintro e w91 ⟨rfl, hb⟩; refine ⟨_, rfl, ?_⟩; have n_ := y11 (Kd.R_below (zR HO_12.out) hb) (Kd.R_below (zR HO_24.out) hb) (Kd.R_below (zR HO_109000.out) hb) (Kd.R_below (zR HO_121000.out) hb) (Kd.R_below (zR HO_138000.out) hb) (Kd.R_below (zR HO_155000.out) hb) (zb BK108.out hb) (zb BK120.out hb) (zb BK137.out hb) (zb BK154.out hb) (below_step (zB) hb); clear HO_12 HO_24 HO_109000 HO_121000 HO_138000 HO_155000 BK108 BK120 BK137 BK154 HB; obtain ⟨HO_12, HO_24, HO_109000, HO_121000, HO_138000, HO_155000, BK108, BK120, BK137, BK154, HB⟩ := n_; (try clear hb); (try clear hb2); (try clear hk); (try clear hi); have hcz92_0 := zc BK108.out; have hfz92_0 := blk_frozen BK108.out 0) | ((with_reducible refine gate_callee (f := 21) rfl ?_); refine goesL_ (some 178) rfl rfl Try.func21 zk rfl #[.agg #[.slice Ao10 t102.length co10]] rfl zA ?_; (with_reducible refine (spec_SumOfRates.calls kj73 _ _ t102 t165 t166 _ ?side1 ?side2 A85.out).mono ?_); (case side1 => exact zC (Kd.R_reads' HO_109000.out).2.2); (case side2 => exact (Kd.R_reads' HO_109000.out).2.1); rintro e w93 ⟨rfl, hb⟩; refine ⟨_, rfl, ?_⟩; have n_ := y11 (Kd.R_below (zR HO_12.out) hb) (Kd.R_below (zR HO_24.out) hb) (Kd.R_below (zR HO_109000.out) hb) (Kd.R_below (zR HO_121000.out) hb) (Kd.R_below (zR HO_138000.out) hb) (Kd.R_below (zR HO_155000.out) hb) (zb BK108.out hb) (zb BK120.out hb) (zb BK137.out hb) (zb BK154.out hb) (below_step (zB) hb); clear HO_12 HO_24 HO_109000 HO_121000 HO_138000 HO_155000 BK108 BK120 BK137 BK154 HB; obtain ⟨HO_12, HO_24, HO_109000, HO_121000, HO_138000, HO_155000, BK108, BK120, BK137, BK154, HB⟩ := n_; (try clear hb); (try clear hb2); (try clear hk); (try clear hi)))
                                   (try simp only [Act.put, List.setIfInBounds_toArray, List.set_cons_zero, List.set_cons_succ])
                                   go_cut [195] (fun u195_ wc => ∃ (kq : Nat) (x195_85 : Bool), u195_ = .bool x195_85 ∧ Aside0 (laws_FnGardens.j5 kq t109 t110 t119 t121 t124 t150 t153 t155 t156 t159 t160 t163 t164 x195_85 = some r) ∧ Aside0 (kq ≤ kj73) ∧ Aside0 (Kd.R (Kd.int .i64) 2 wc w.heap.size (fun k_ => some k_ ≠ ((.slice Ao66 t150.length co66) : Value).ownBlock ∧ some k_ ≠ ((.slice Ao10 t102.length co10) : Value).ownBlock ∧ some k_ ≠ ((.slice Ao24 t113.length co24) : Value).ownBlock ∧ some k_ ≠ ((.slice Ao42 t130.length co42) : Value).ownBlock ∧ some k_ ≠ ((.slice Ao61 t147.length co61) : Value).ownBlock) v122 t121) ∧ Aside0 (Kd.R (Kd.int .i64) 2 wc w.heap.size (fun k_ => some k_ ≠ (v122 : Value).ownBlock ∧ some k_ ≠ ((.slice Ao10 t102.length co10) : Value).ownBlock ∧ some k_ ≠ ((.slice Ao24 t113.length co24) : Value).ownBlock ∧ some k_ ≠ ((.slice Ao42 t130.length co42) : Value).ownBlock ∧ some k_ ≠ ((.slice Ao61 t147.length co61) : Value).ownBlock) (.slice Ao66 t150.length co66) t150) ∧ Aside0 (Kd.R (Kd.int .i64) 2 wc w.heap.size (fun k_ => some k_ ≠ (v122 : Value).ownBlock ∧ some k_ ≠ ((.slice Ao66 t150.length co66) : Value).ownBlock ∧ some k_ ≠ ((.slice Ao24 t113.length co24) : Value).ownBlock ∧ some k_ ≠ ((.slice Ao42 t130.length co42) : Value).ownBlock ∧ some k_ ≠ ((.slice Ao61 t147.length co61) : Value).ownBlock) (.slice Ao10 t102.length co10) t102) ∧ Aside0 (Kd.R (Kd.int .i64) 2 wc w.heap.size (fun k_ => some k_ ≠ (v122 : Value).ownBlock ∧ some k_ ≠ ((.slice Ao66 t150.length co66) : Value).ownBlock ∧ some k_ ≠ ((.slice Ao10 t102.length co10) : Value).ownBlock ∧ some k_ ≠ ((.slice Ao42 t130.length co42) : Value).ownBlock ∧ some k_ ≠ ((.slice Ao61 t147.length co61) : Value).ownBlock) (.slice Ao24 t113.length co24) t113) ∧ Aside0 (Kd.R (Kd.int .i64) 2 wc w.heap.size (fun k_ => some k_ ≠ (v122 : Value).ownBlock ∧ some k_ ≠ ((.slice Ao66 t150.length co66) : Value).ownBlock ∧ some k_ ≠ ((.slice Ao10 t102.length co10) : Value).ownBlock ∧ some k_ ≠ ((.slice Ao24 t113.length co24) : Value).ownBlock ∧ some k_ ≠ ((.slice Ao61 t147.length co61) : Value).ownBlock) (.slice Ao42 t130.length co42) t130) ∧ Aside0 (Kd.R (Kd.int .i64) 2 wc w.heap.size (fun k_ => some k_ ≠ (v122 : Value).ownBlock ∧ some k_ ≠ ((.slice Ao66 t150.length co66) : Value).ownBlock ∧ some k_ ≠ ((.slice Ao10 t102.length co10) : Value).ownBlock ∧ some k_ ≠ ((.slice Ao24 t113.length co24) : Value).ownBlock ∧ some k_ ≠ ((.slice Ao42 t130.length co42) : Value).ownBlock) (.slice Ao61 t147.length co61) t147) ∧ Aside0 (wc.heap[gb108]? = some (.cells #[(.slice Ao10 t102.length co10)] 26 (0, 0))) ∧ Aside0 (wc.heap[gb120]? = some (.cells #[(.slice Ao24 t113.length co24)] 26 (0, 0))) ∧ Aside0 (wc.heap[gb137]? = some (.cells #[(.slice Ao42 t130.length co42)] 26 (0, 0))) ∧ Aside0 (wc.heap[gb154]? = some (.cells #[(.slice Ao61 t147.length co61)] 26 (0, 0))) ∧ Aside0 (Below w.heap.size w wc))
                                   case first =>
                                     as_aux_lemma =>
                                      have H := HC86.out
                                      clear HC86
                                      by_cases c94 : t164 = t166
                                      · rw [if_pos c94] at H
                                        have c94b0 : (t164 == t166) = true := beq_iff_eq.mpr c94
                                        have c94b1 : (t164 != t166) = false := bne_eq_false_iff_eq.mpr c94
                                        clear c94
                                        (first | rw [c94b0] | (simp only [i64_w, i32_w]; rw [c94b0]) | skip)
                                        by_cases c95 : t163 = t165
                                        · rw [if_pos c95] at H
                                          have c95b0 : (t163 == t165) = true := beq_iff_eq.mpr c95
                                          have c95b1 : (t163 != t165) = false := bne_eq_false_iff_eq.mpr c95
                                          clear c95
                                          replace H := Option.bind_eq_some_iff.mp H
                                          obtain ⟨t167, A960, H⟩ := H
                                          replace H : ((spec_IsGarden.f kj73 t102).bind fun t168 => (laws_FnGardens.j5 kj73 t109 t110 t119 t121 t124 t150 t153 t155 t156 t159 t160 t163 t164 (t167 != t168))) = some r := H
                                          have A96 := Aside0.mk A960
                                          clear A960
                                          replace H := Option.bind_eq_some_iff.mp H
                                          obtain ⟨t168, A970, H⟩ := H
                                          replace H : (laws_FnGardens.j5 kj73 t109 t110 t119 t121 t124 t150 t153 t155 t156 t159 t160 t163 t164 (t167 != t168)) = some r := H
                                          have A97 := Aside0.mk A970
                                          clear A970
                                          have H' := Aside0.mk H
                                          clear H
                                          try go_wp2
                                          have n_ := y11 (Kd.R_drew HO_12.out) (Kd.R_drew HO_24.out) (Kd.R_drew HO_109000.out) (Kd.R_drew HO_121000.out) (Kd.R_drew HO_138000.out) (Kd.R_drew HO_155000.out) (blk_drew BK108.out) (blk_drew BK120.out) (blk_drew BK137.out) (blk_drew BK154.out) (below_drew1 HB.out)
                                          clear HO_12 HO_24 HO_109000 HO_121000 HO_138000 HO_155000 BK108 BK120 BK137 BK154 HB
                                          obtain ⟨HO_12, HO_24, HO_109000, HO_121000, HO_138000, HO_155000, BK108, BK120, BK137, BK154, HB⟩ := n_
                                          refine start_ (n := 15) (S := fun w' => w'.cell? ⟨gb108, 0, none⟩ = some (.slice Ao10 t102.length co10)) (ds := []) #[false,false,false,false,false,false,false,false,false,false,false,false,false,false,false] zk rfl rfl ((blk_cell BK108.out 0).trans rfl) (fun hHeld => ?_); refine with_tabW laws_FnGardens.tab29 laws_FnGardens.bits29 (fun HT_ HW_ => ?_)
                                          generalize w93.drew = w98 at HO_12 HO_24 HO_109000 HO_121000 HO_138000 HO_155000 BK108 BK120 BK137 BK154 HB hHeld ⊢
                                          refine pure_ (i := 0) (N := some 181) (v := ?_) (a' := ?_) #[true,false,false,false,false,false,false,false,false,false,false,false,false,false,false] rfl rfl (any_of HT_.out zk) (fun _ _ _ h => h) (Or.inl ⟨by rfl, ?_⟩) ?_ ?_
                                          rotate_left; exact zp; rotate_left; exact zq
                                          refine pure_ (i := 1) (N := some 182) (v := ?_) (a' := ?_) #[true,true,false,false,false,false,false,false,false,false,false,false,false,false,false] rfl rfl (any_of HT_.out zk) (fun _ _ _ h => h) (Or.inl ⟨by rfl, ?_⟩) ?_ ?_
                                          rotate_left; exact zp; rotate_left; exact zq
                                          refine pure_ (i := 2) (N := some 183) (v := ?_) (a' := ?_) #[true,true,true,false,false,false,false,false,false,false,false,false,false,false,false] rfl rfl (any_of HT_.out zk) (fun _ _ _ h => h) (Or.inl ⟨by rfl, ?_⟩) ?_ ?_
                                          rotate_left; exact zp; rotate_left; exact zq
                                          refine pure_ (i := 3) (N := some 184) (v := ?_) (a' := ?_) #[true,true,true,true,false,false,false,false,false,false,false,false,false,false,false] rfl rfl (any_of HT_.out zk) (fun _ _ _ h => h) (Or.inl ⟨by rfl, ?_⟩) ?_ ?_
                                          rotate_left; exact zp; rotate_left; exact zq
                                          refine pure_ (i := 4) (N := some 185) (v := ?_) (a' := ?_) #[true,true,true,true,true,false,false,false,false,false,false,false,false,false,false] rfl rfl (any_of HT_.out zk) (fun _ _ _ h => h) (Or.inl ⟨by rfl, ?_⟩) ?_ ?_
                                          rotate_left; exact zp; rotate_left; exact zq
                                          refine pure_ (i := 5) (N := some 186) (v := ?_) (a' := ?_) #[true,true,true,true,true,true,false,false,false,false,false,false,false,false,false] rfl rfl (any_of HT_.out zk) (fun _ _ _ h => h) (Or.inl ⟨by rfl, ?_⟩) ?_ ?_
                                          rotate_left; exact zp; rotate_left; exact zq
                                          refine pure_ (i := 6) (N := some 187) (v := ?_) (a' := ?_) #[true,true,true,true,true,true,true,false,false,false,false,false,false,false,false] rfl rfl (any_of HT_.out zk) (fun _ _ _ h => h) (Or.inl ⟨by rfl, ?_⟩) ?_ ?_
                                          rotate_left; exact zp; rotate_left; exact zq
                                          refine pure_ (i := 7) (N := some 188) (v := ?_) (a' := ?_) #[true,true,true,true,true,true,true,true,false,false,false,false,false,false,false] rfl rfl (any_of HT_.out zk) (fun _ _ _ h => h) (Or.inl ⟨by rfl, ?_⟩) ?_ ?_
                                          rotate_left; exact zp; rotate_left; exact zq
                                          refine pure_ (i := 8) (N := some 189) (v := ?_) (a' := ?_) #[true,true,true,true,true,true,true,true,true,false,false,false,false,false,false] rfl rfl (any_of HT_.out zk) (fun _ _ _ h => h) (Or.inl ⟨by rfl, ?_⟩) ?_ ?_
                                          rotate_left; exact zp; rotate_left; exact zq
                                          refine take_ (i := 9) (N := some 190) (v := ?_) (a' := ?_) #[true,true,true,true,true,true,true,true,true,true,false,false,false,false,false] rfl rfl (take_ofW HT_.out HW_.out zk) (fun _ _ _ h => h) (Or.inl ⟨by rfl, ?_⟩) hHeld ?_ ?_
                                          rotate_left
                                          · intro w' s0
                                            go_simp
                                            with_reducible rfl
                                          rotate_left
                                          · simp only [Act.put, List.setIfInBounds_toArray, List.set_cons_zero, List.set_cons_succ, i64_w, i32_w]
                                            rfl
                                          refine take_ (i := 11) (N := some 192) (v := ?_) (a' := ?_) #[true,true,true,true,true,true,true,true,true,true,false,true,false,false,false] rfl rfl (take_ofW HT_.out HW_.out zk) (fun _ _ _ h => h) (Or.inl ⟨by rfl, ?_⟩) hHeld ?_ ?_
                                          rotate_left
                                          · intro w' s0
                                            go_simp
                                            with_reducible rfl
                                          rotate_left
                                          · simp only [Act.put, List.setIfInBounds_toArray, List.set_cons_zero, List.set_cons_succ, i64_w, i32_w]
                                            rfl
                                          refine one_ (i := 10) (N := some 191) #[true,true,true,true,true,true,true,true,true,true,true,true,false,false,false] rfl rfl (one_of HT_.out zk) (by decide) (fun K hK => ?_)
                                          refine goes_ Try.func22 zk rfl #[.agg #[.slice Ao10 t102.length co10]] (by rfl) rfl rfl zA ?_
                                          with_reducible refine (impl_IsGarden.calls _ _ t102 t167 _ ?side1 ?side2 A96.out).mono ?_
                                          (case side1 => exact zC (Kd.R_reads' HO_109000.out).2.2)
                                          (case side2 => exact (Kd.R_reads' HO_109000.out).2.1)
                                          rintro e w99 ⟨rfl, hb⟩
                                          refine ⟨_, rfl, ?_⟩
                                          have n_ := y11 (Kd.R_below (zR HO_12.out) hb) (Kd.R_below (zR HO_24.out) hb) (Kd.R_below (zR HO_109000.out) hb) (Kd.R_below (zR HO_121000.out) hb) (Kd.R_below (zR HO_138000.out) hb) (Kd.R_below (zR HO_155000.out) hb) (zb BK108.out hb) (zb BK120.out hb) (zb BK137.out hb) (zb BK154.out hb) (below_step (zB) hb)
                                          clear HO_12 HO_24 HO_109000 HO_121000 HO_138000 HO_155000 BK108 BK120 BK137 BK154 HB
                                          obtain ⟨HO_12, HO_24, HO_109000, HO_121000, HO_138000, HO_155000, BK108, BK120, BK137, BK154, HB⟩ := n_
                                          (try clear hb)
                                          (try clear hb2)
                                          (try clear hk)
                                          (try clear hi)
                                          refine hK.out _ _ ((blk_cell BK108.out 0).trans rfl) (fun hHeld => ?_)
                                          clear hK K
                                          refine norm_ (a' := ?_) ?_ ?_
                                          rotate_left
                                          · show Act.put _ (some 191) _ = _
                                            simp only [Act.put, List.setIfInBounds_toArray, List.set_cons_zero, List.set_cons_succ, i64_w, i32_w]
                                            rfl
                                          refine one_ (i := 12) (N := some 193) #[true,true,true,true,true,true,true,true,true,true,true,true,true,false,false] rfl rfl (one_of HT_.out zk) (by decide) (fun K hK => ?_)
                                          refine goes_ Try.func23 zk rfl #[.agg #[.slice Ao10 t102.length co10]] (by rfl) rfl rfl zA ?_
                                          with_reducible refine (spec_IsGarden.calls kj73 _ _ t102 t168 _ ?side1 ?side2 A97.out).mono ?_
                                          (case side1 => exact zC (Kd.R_reads' HO_109000.out).2.2)
                                          (case side2 => exact (Kd.R_reads' HO_109000.out).2.1)
                                          rintro e w100 ⟨rfl, hb⟩
                                          refine ⟨_, rfl, ?_⟩
                                          have n_ := y11 (Kd.R_below (zR HO_12.out) hb) (Kd.R_below (zR HO_24.out) hb) (Kd.R_below (zR HO_109000.out) hb) (Kd.R_below (zR HO_121000.out) hb) (Kd.R_below (zR HO_138000.out) hb) (Kd.R_below (zR HO_155000.out) hb) (zb BK108.out hb) (zb BK120.out hb) (zb BK137.out hb) (zb BK154.out hb) (below_step (zB) hb)
                                          clear HO_12 HO_24 HO_109000 HO_121000 HO_138000 HO_155000 BK108 BK120 BK137 BK154 HB
                                          obtain ⟨HO_12, HO_24, HO_109000, HO_121000, HO_138000, HO_155000, BK108, BK120, BK137, BK154, HB⟩ := n_
                                          (try clear hb)
                                          (try clear hb2)
                                          (try clear hk)
                                          (try clear hi)
                                          refine hK.out _ _ ((blk_cell BK108.out 0).trans rfl) (fun hHeld => ?_)
                                          clear hK K
                                          refine norm_ (a' := ?_) ?_ ?_
                                          rotate_left
                                          · show Act.put _ (some 193) _ = _
                                            simp only [Act.put, List.setIfInBounds_toArray, List.set_cons_zero, List.set_cons_succ, i64_w, i32_w]
                                            rfl
                                          refine pure_ (i := 13) (N := some 194) (v := ?_) (a' := ?_) #[true,true,true,true,true,true,true,true,true,true,true,true,true,true,false] rfl rfl (any_of HT_.out zk) (fun _ _ _ h => h) (Or.inl ⟨by rfl, ?_⟩) ?_ ?_
                                          rotate_left; exact zp; rotate_left; exact zq
                                          refine pure_ (i := 14) (N := some 195) (v := ?_) (a' := ?_) #[true,true,true,true,true,true,true,true,true,true,true,true,true,true,true] rfl rfl (any_of HT_.out zk) (fun _ _ _ h => h) (Or.inl ⟨by rfl, ?_⟩) ?_ ?_
                                          rotate_left; exact zp; rotate_left; exact zq
                                          refine done_ (done_of HT_.out zk) ?_
                                          try go_wp2
                                          go_meet
                                          case rel => exact ⟨_, ((t167 != t168)), zF, H', ⟨by have := HJ6.out; have := HJ20.out; have := HJ38.out; have := HJ57.out; have := HJ73.out; first | omega | exact Nat.le_refl _⟩, ⟨zR HO_12.out⟩, ⟨zR HO_24.out⟩, ⟨zR HO_109000.out⟩, ⟨zR HO_121000.out⟩, ⟨zR HO_138000.out⟩, ⟨zR HO_155000.out⟩, ⟨zG BK108.out⟩, ⟨zG BK120.out⟩, ⟨zG BK137.out⟩, ⟨zG BK154.out⟩, ⟨zB⟩⟩
                                        · rw [if_neg c95] at H
                                          have c95b0 : (t163 == t165) = false := beq_eq_false_iff_ne.mpr c95
                                          have c95b1 : (t163 != t165) = true := bne_iff_ne.mpr c95
                                          have H' := Aside0.mk H
                                          clear H
                                          try go_wp2
                                          have n_ := y11 (Kd.R_drew HO_12.out) (Kd.R_drew HO_24.out) (Kd.R_drew HO_109000.out) (Kd.R_drew HO_121000.out) (Kd.R_drew HO_138000.out) (Kd.R_drew HO_155000.out) (blk_drew BK108.out) (blk_drew BK120.out) (blk_drew BK137.out) (blk_drew BK154.out) (below_drew1 HB.out)
                                          clear HO_12 HO_24 HO_109000 HO_121000 HO_138000 HO_155000 BK108 BK120 BK137 BK154 HB
                                          obtain ⟨HO_12, HO_24, HO_109000, HO_121000, HO_138000, HO_155000, BK108, BK120, BK137, BK154, HB⟩ := n_
                                          refine start_ (n := 15) (S := fun w' => True) (ds := []) #[false,false,false,false,false,false,false,false,false,false,false,false,false,false,false] zk rfl rfl trivial (fun hHeld => ?_); refine with_tabW laws_FnGardens.tab29 laws_FnGardens.bits29 (fun HT_ HW_ => ?_)
                                          generalize w93.drew = w101 at HO_12 HO_24 HO_109000 HO_121000 HO_138000 HO_155000 BK108 BK120 BK137 BK154 HB hHeld ⊢
                                          refine pure_ (i := 0) (N := some 181) (v := ?_) (a' := ?_) #[true,false,false,false,false,false,false,false,false,false,false,false,false,false,false] rfl rfl (any_of HT_.out zk) (fun _ _ _ h => h) (Or.inl ⟨by rfl, ?_⟩) ?_ ?_
                                          rotate_left; exact zp; rotate_left; exact zq
                                          refine pure_ (i := 1) (N := some 182) (v := ?_) (a' := ?_) #[true,true,false,false,false,false,false,false,false,false,false,false,false,false,false] rfl rfl (any_of HT_.out zk) (fun _ _ _ h => h) (Or.inl ⟨by rfl, ?_⟩) ?_ ?_
                                          rotate_left; exact zp; rotate_left; exact zq
                                          refine pure_ (i := 2) (N := some 183) (v := ?_) (a' := ?_) #[true,true,true,false,false,false,false,false,false,false,false,false,false,false,false] rfl rfl (any_of HT_.out zk) (fun _ _ _ h => h) (Or.inl ⟨by rfl, ?_⟩) ?_ ?_
                                          rotate_left; exact zp; rotate_left; exact zq
                                          refine pure_ (i := 3) (N := some 184) (v := ?_) (a' := ?_) #[true,true,true,true,false,false,false,false,false,false,false,false,false,false,false] rfl rfl (any_of HT_.out zk) (fun _ _ _ h => h) (Or.inl ⟨by rfl, ?_⟩) ?_ ?_
                                          rotate_left; exact zp; rotate_left; exact zq
                                          refine pure_ (i := 4) (N := some 185) (v := ?_) (a' := ?_) #[true,true,true,true,true,false,false,false,false,false,false,false,false,false,false] rfl rfl (any_of HT_.out zk) (fun _ _ _ h => h) (Or.inl ⟨by rfl, ?_⟩) ?_ ?_
                                          rotate_left; exact zp; rotate_left; exact zq
                                          refine pure_ (i := 5) (N := some 186) (v := ?_) (a' := ?_) #[true,true,true,true,true,true,false,false,false,false,false,false,false,false,false] rfl rfl (any_of HT_.out zk) (fun _ _ _ h => h) (Or.inl ⟨by rfl, ?_⟩) ?_ ?_
                                          rotate_left; exact zp; rotate_left; exact zq
                                          refine pure_ (i := 6) (N := some 187) (v := ?_) (a' := ?_) #[true,true,true,true,true,true,true,false,false,false,false,false,false,false,false] rfl rfl (any_of HT_.out zk) (fun _ _ _ h => h) (Or.inl ⟨by rfl, ?_⟩) ?_ ?_
                                          rotate_left; exact zp; rotate_left; exact zq
                                          refine pure_ (i := 7) (N := some 188) (v := ?_) (a' := ?_) #[true,true,true,true,true,true,true,true,false,false,false,false,false,false,false] rfl rfl (any_of HT_.out zk) (fun _ _ _ h => h) (Or.inl ⟨by rfl, ?_⟩) ?_ ?_
                                          rotate_left; exact zp; rotate_left; exact zq
                                          refine pure_ (i := 8) (N := some 189) (v := ?_) (a' := ?_) #[true,true,true,true,true,true,true,true,true,false,false,false,false,false,false] rfl rfl (any_of HT_.out zk) (fun _ _ _ h => h) (Or.inl ⟨by rfl, ?_⟩) ?_ ?_
                                          rotate_left; exact zp; rotate_left; exact zq
                                          refine pure_ (i := 9) (N := some 190) (v := undef) (a' := ?_) #[true,true,true,true,true,true,true,true,true,true,false,false,false,false,false] rfl rfl (any_of HT_.out zk) (fun _ _ _ h => h) (Or.inr ⟨by rfl, rfl⟩) ?_ ?_
                                          rotate_left
                                          · simp only [Act.put, List.setIfInBounds_toArray, List.set_cons_zero, List.set_cons_succ, i64_w, i32_w]
                                            rfl
                                          refine pure_ (i := 10) (N := some 191) (v := undef) (a' := ?_) #[true,true,true,true,true,true,true,true,true,true,true,false,false,false,false] rfl rfl (any_of HT_.out zk) (fun _ _ _ h => h) (Or.inr ⟨by rfl, rfl⟩) ?_ ?_
                                          rotate_left
                                          · simp only [Act.put, List.setIfInBounds_toArray, List.set_cons_zero, List.set_cons_succ, i64_w, i32_w]
                                            rfl
                                          refine pure_ (i := 11) (N := some 192) (v := undef) (a' := ?_) #[true,true,true,true,true,true,true,true,true,true,true,true,false,false,false] rfl rfl (any_of HT_.out zk) (fun _ _ _ h => h) (Or.inr ⟨by rfl, rfl⟩) ?_ ?_
                                          rotate_left
                                          · simp only [Act.put, List.setIfInBounds_toArray, List.set_cons_zero, List.set_cons_succ, i64_w, i32_w]
                                            rfl
                                          refine pure_ (i := 12) (N := some 193) (v := undef) (a' := ?_) #[true,true,true,true,true,true,true,true,true,true,true,true,true,false,false] rfl rfl (any_of HT_.out zk) (fun _ _ _ h => h) (Or.inr ⟨by rfl, rfl⟩) ?_ ?_
                                          rotate_left
                                          · simp only [Act.put, List.setIfInBounds_toArray, List.set_cons_zero, List.set_cons_succ, i64_w, i32_w]
                                            rfl
                                          refine pure_ (i := 13) (N := some 194) (v := undef) (a' := ?_) #[true,true,true,true,true,true,true,true,true,true,true,true,true,true,false] rfl rfl (any_of HT_.out zk) (fun _ _ _ h => h) (Or.inr ⟨by rfl, rfl⟩) ?_ ?_
                                          rotate_left
                                          · simp only [Act.put, List.setIfInBounds_toArray, List.set_cons_zero, List.set_cons_succ, i64_w, i32_w]
                                            rfl
                                          refine pure_ (i := 14) (N := some 195) (v := ?_) (a' := ?_) #[true,true,true,true,true,true,true,true,true,true,true,true,true,true,true] rfl rfl (any_of HT_.out zk) (fun _ _ _ h => h) (Or.inl ⟨by rfl, ?_⟩) ?_ ?_
                                          rotate_left; exact zp; rotate_left; exact zq
                                          refine done_ (done_of HT_.out zk) ?_
                                          try go_wp2
                                          go_meet
                                          case rel => exact ⟨_, (true), zF, H', ⟨by have := HJ6.out; have := HJ20.out; have := HJ38.out; have := HJ57.out; have := HJ73.out; first | omega | exact Nat.le_refl _⟩, ⟨zR HO_12.out⟩, ⟨zR HO_24.out⟩, ⟨zR HO_109000.out⟩, ⟨zR HO_121000.out⟩, ⟨zR HO_138000.out⟩, ⟨zR HO_155000.out⟩, ⟨zG BK108.out⟩, ⟨zG BK120.out⟩, ⟨zG BK137.out⟩, ⟨zG BK154.out⟩, ⟨zB⟩⟩
                                      · rw [if_neg c94] at H
                                        have c94b0 : (t164 == t166) = false := beq_eq_false_iff_ne.mpr c94
                                        have c94b1 : (t164 != t166) = true := bne_iff_ne.mpr c94
                                        (first | rw [c94b0] | (simp only [i64_w, i32_w]; rw [c94b0]) | skip)
                                        have H' := Aside0.mk H
                                        clear H
                                        try go_wp2
                                        have n_ := y11 (Kd.R_drew HO_12.out) (Kd.R_drew HO_24.out) (Kd.R_drew HO_109000.out) (Kd.R_drew HO_121000.out) (Kd.R_drew HO_138000.out) (Kd.R_drew HO_155000.out) (blk_drew BK108.out) (blk_drew BK120.out) (blk_drew BK137.out) (blk_drew BK154.out) (below_drew1 HB.out)
                                        clear HO_12 HO_24 HO_109000 HO_121000 HO_138000 HO_155000 BK108 BK120 BK137 BK154 HB
                                        obtain ⟨HO_12, HO_24, HO_109000, HO_121000, HO_138000, HO_155000, BK108, BK120, BK137, BK154, HB⟩ := n_
                                        refine start_ (n := 15) (S := fun w' => True) (ds := []) #[false,false,false,false,false,false,false,false,false,false,false,false,false,false,false] zk rfl rfl trivial (fun hHeld => ?_); refine with_tabW laws_FnGardens.tab29 laws_FnGardens.bits29 (fun HT_ HW_ => ?_)
                                        generalize w93.drew = w102 at HO_12 HO_24 HO_109000 HO_121000 HO_138000 HO_155000 BK108 BK120 BK137 BK154 HB hHeld ⊢
                                        refine pure_ (i := 0) (N := some 181) (v := ?_) (a' := ?_) #[true,false,false,false,false,false,false,false,false,false,false,false,false,false,false] rfl rfl (any_of HT_.out zk) (fun _ _ _ h => h) (Or.inl ⟨by rfl, ?_⟩) ?_ ?_
                                        rotate_left; exact zp; rotate_left; exact zq
                                        refine pure_ (i := 1) (N := some 182) (v := ?_) (a' := ?_) #[true,true,false,false,false,false,false,false,false,false,false,false,false,false,false] rfl rfl (any_of HT_.out zk) (fun _ _ _ h => h) (Or.inl ⟨by rfl, ?_⟩) ?_ ?_
                                        rotate_left; exact zp; rotate_left; exact zq
                                        refine pure_ (i := 2) (N := some 183) (v := ?_) (a' := ?_) #[true,true,true,false,false,false,false,false,false,false,false,false,false,false,false] rfl rfl (any_of HT_.out zk) (fun _ _ _ h => h) (Or.inl ⟨by rfl, ?_⟩) ?_ ?_
                                        rotate_left; exact zp; rotate_left; exact zq
                                        refine pure_ (i := 3) (N := some 184) (v := ?_) (a' := ?_) #[true,true,true,true,false,false,false,false,false,false,false,false,false,false,false] rfl rfl (any_of HT_.out zk) (fun _ _ _ h => h) (Or.inl ⟨by rfl, ?_⟩) ?_ ?_
                                        rotate_left; exact zp; rotate_left; exact zq
                                        refine pure_ (i := 4) (N := some 185) (v := undef) (a' := ?_) #[true,true,true,true,true,false,false,false,false,false,false,false,false,false,false] rfl rfl (any_of HT_.out zk) (fun _ _ _ h => h) (Or.inr ⟨by rfl, rfl⟩) ?_ ?_
                                        rotate_left
                                        · simp only [Act.put, List.setIfInBounds_toArray, List.set_cons_zero, List.set_cons_succ, i64_w, i32_w]
                                          rfl
                                        refine pure_ (i := 5) (N := some 186) (v := undef) (a' := ?_) #[true,true,true,true,true,true,false,false,false,false,false,false,false,false,false] rfl rfl (any_of HT_.out zk) (fun _ _ _ h => h) (Or.inr ⟨by rfl, rfl⟩) ?_ ?_
                                        rotate_left
                                        · simp only [Act.put, List.setIfInBounds_toArray, List.set_cons_zero, List.set_cons_succ, i64_w, i32_w]
                                          rfl
                                        refine pure_ (i := 6) (N := some 187) (v := undef) (a' := ?_) #[true,true,true,true,true,true,true,false,false,false,false,false,false,false,false] rfl rfl (any_of HT_.out zk) (fun _ _ _ h => h) (Or.inr ⟨by rfl, rfl⟩) ?_ ?_
                                        rotate_left
                                        · simp only [Act.put, List.setIfInBounds_toArray, List.set_cons_zero, List.set_cons_succ, i64_w, i32_w]
                                          rfl
                                        refine pure_ (i := 7) (N := some 188) (v := ?_) (a' := ?_) #[true,true,true,true,true,true,true,true,false,false,false,false,false,false,false] rfl rfl (any_of HT_.out zk) (fun _ _ _ h => h) (Or.inl ⟨by rfl, ?_⟩) ?_ ?_
                                        rotate_left; exact zp; rotate_left; exact zq
                                        refine pure_ (i := 8) (N := some 189) (v := ?_) (a' := ?_) #[true,true,true,true,true,true,true,true,true,false,false,false,false,false,false] rfl rfl (any_of HT_.out zk) (fun _ _ _ h => h) (Or.inl ⟨by rfl, ?_⟩) ?_ ?_
                                        rotate_left; exact zp; rotate_left; exact zq
                                        refine pure_ (i := 9) (N := some 190) (v := undef) (a' := ?_) #[true,true,true,true,true,true,true,true,true,true,false,false,false,false,false] rfl rfl (any_of HT_.out zk) (fun _ _ _ h => h) (Or.inr ⟨by rfl, rfl⟩) ?_ ?_
                                        rotate_left
                                        · simp only [Act.put, List.setIfInBounds_toArray, List.set_cons_zero, List.set_cons_succ, i64_w, i32_w]
                                          rfl
                                        refine pure_ (i := 10) (N := some 191) (v := undef) (a' := ?_) #[true,true,true,true,true,true,true,true,true,true,true,false,false,false,false] rfl rfl (any_of HT_.out zk) (fun _ _ _ h => h) (Or.inr ⟨by rfl, rfl⟩) ?_ ?_
                                        rotate_left
                                        · simp only [Act.put, List.setIfInBounds_toArray, List.set_cons_zero, List.set_cons_succ, i64_w, i32_w]
                                          rfl
                                        refine pure_ (i := 11) (N := some 192) (v := undef) (a' := ?_) #[true,true,true,true,true,true,true,true,true,true,true,true,false,false,false] rfl rfl (any_of HT_.out zk) (fun _ _ _ h => h) (Or.inr ⟨by rfl, rfl⟩) ?_ ?_
                                        rotate_left
                                        · simp only [Act.put, List.setIfInBounds_toArray, List.set_cons_zero, List.set_cons_succ, i64_w, i32_w]
                                          rfl
                                        refine pure_ (i := 12) (N := some 193) (v := undef) (a' := ?_) #[true,true,true,true,true,true,true,true,true,true,true,true,true,false,false] rfl rfl (any_of HT_.out zk) (fun _ _ _ h => h) (Or.inr ⟨by rfl, rfl⟩) ?_ ?_
                                        rotate_left
                                        · simp only [Act.put, List.setIfInBounds_toArray, List.set_cons_zero, List.set_cons_succ, i64_w, i32_w]
                                          rfl
                                        refine pure_ (i := 13) (N := some 194) (v := undef) (a' := ?_) #[true,true,true,true,true,true,true,true,true,true,true,true,true,true,false] rfl rfl (any_of HT_.out zk) (fun _ _ _ h => h) (Or.inr ⟨by rfl, rfl⟩) ?_ ?_
                                        rotate_left
                                        · simp only [Act.put, List.setIfInBounds_toArray, List.set_cons_zero, List.set_cons_succ, i64_w, i32_w]
                                          rfl
                                        refine pure_ (i := 14) (N := some 195) (v := ?_) (a' := ?_) #[true,true,true,true,true,true,true,true,true,true,true,true,true,true,true] rfl rfl (any_of HT_.out zk) (fun _ _ _ h => h) (Or.inl ⟨by rfl, ?_⟩) ?_ ?_
                                        rotate_left; exact zp; rotate_left; exact zq
                                        refine done_ (done_of HT_.out zk) ?_
                                        try go_wp2
                                        go_meet
                                        case rel => exact ⟨_, (true), zF, H', ⟨by have := HJ6.out; have := HJ20.out; have := HJ38.out; have := HJ57.out; have := HJ73.out; first | omega | exact Nat.le_refl _⟩, ⟨zR HO_12.out⟩, ⟨zR HO_24.out⟩, ⟨zR HO_109000.out⟩, ⟨zR HO_121000.out⟩, ⟨zR HO_138000.out⟩, ⟨zR HO_155000.out⟩, ⟨zG BK108.out⟩, ⟨zG BK120.out⟩, ⟨zG BK137.out⟩, ⟨zG BK154.out⟩, ⟨zB⟩⟩
                                   case rest =>
                                     as_aux_lemma =>
                                      clear HC86
                                      try clear c83
                                      try clear hcz90_0
                                      try clear hcz92_0
                                      try clear hfz90_0
                                      try clear hfz92_0
                                      obtain ⟨kq, x195_85, rfl, HA, HJ85, HO_12, HO_24, HO_109000, HO_121000, HO_138000, HO_155000, BK108, BK120, BK137, BK154, HB⟩ := hcut
                                      cases kq with
                                      | zero => exact absurd HA.out (by simp [laws_FnGardens.j5])
                                      | succ kj85 =>
                                        have H := HA.out
                                        clear HA
                                        simp only [laws_FnGardens.j5] at H
                                        by_cases c103 : x195_85 = true
                                        · subst c103
                                          have H1 : (some false) = some r := by rw [if_pos rfl] at H; exact H
                                          clear H
                                          have H := H1
                                          clear H1
                                          obtain rfl := Option.some.inj H
                                          go_wp2
                                          go_ret
                                          exact ⟨zE, zB⟩
                                        · replace c103 := Bool.eq_false_iff.mpr c103
                                          subst c103
                                          have H1 : (if t156 = 0 then (if t160 = 0 then (if 0 ≤ t159 then (if t159 < (t150.length : Int) then (if ((t155 == (-1)) != (decide ((rd t150 t159) < t153))) = true then (some false) else (if t155 ≥ 0 then (if 0 ≤ t155 then (if t155 < (t150.length : Int) then (if (rd t150 t155) < t153 then (some false) else (laws_FnGardens.j6 kj85 t109 t110 t119 t121 t124 t163 t164)) else (none)) else (none)) else (laws_FnGardens.j6 kj85 t109 t110 t119 t121 t124 t163 t164))) else (none)) else (none)) else (some false)) else (laws_FnGardens.j6 kj85 t109 t110 t119 t121 t124 t163 t164)) = some r := by rw [if_neg (show ¬ (false = true) by decide)] at H; exact H
                                          clear H
                                          have H := H1
                                          clear H1
                                          have HC104 := Aside0.mk H
                                          clear H
                                          go_upto_if 197 with (fail)
                                          go_cut [] (fun wc => ∃ (kq : Nat), Aside0 (laws_FnGardens.j6 kq t109 t110 t119 t121 t124 t163 t164 = some r) ∧ Aside0 (kq ≤ kj85) ∧ Aside0 (Kd.R (Kd.int .i64) 2 wc w.heap.size (fun k_ => some k_ ≠ ((.slice Ao10 t102.length co10) : Value).ownBlock ∧ some k_ ≠ ((.slice Ao24 t113.length co24) : Value).ownBlock ∧ some k_ ≠ ((.slice Ao42 t130.length co42) : Value).ownBlock ∧ some k_ ≠ ((.slice Ao61 t147.length co61) : Value).ownBlock) v122 t121) ∧ Aside0 (Kd.R (Kd.int .i64) 2 wc w.heap.size (fun k_ => some k_ ≠ (v122 : Value).ownBlock ∧ some k_ ≠ ((.slice Ao24 t113.length co24) : Value).ownBlock ∧ some k_ ≠ ((.slice Ao42 t130.length co42) : Value).ownBlock ∧ some k_ ≠ ((.slice Ao61 t147.length co61) : Value).ownBlock) (.slice Ao10 t102.length co10) t102) ∧ Aside0 (Kd.R (Kd.int .i64) 2 wc w.heap.size (fun k_ => some k_ ≠ (v122 : Value).ownBlock ∧ some k_ ≠ ((.slice Ao10 t102.length co10) : Value).ownBlock ∧ some k_ ≠ ((.slice Ao42 t130.length co42) : Value).ownBlock ∧ some k_ ≠ ((.slice Ao61 t147.length co61) : Value).ownBlock) (.slice Ao24 t113.length co24) t113) ∧ Aside0 (Kd.R (Kd.int .i64) 2 wc w.heap.size (fun k_ => some k_ ≠ (v122 : Value).ownBlock ∧ some k_ ≠ ((.slice Ao10 t102.length co10) : Value).ownBlock ∧ some k_ ≠ ((.slice Ao24 t113.length co24) : Value).ownBlock ∧ some k_ ≠ ((.slice Ao61 t147.length co61) : Value).ownBlock) (.slice Ao42 t130.length co42) t130) ∧ Aside0 (Kd.R (Kd.int .i64) 2 wc w.heap.size (fun k_ => some k_ ≠ (v122 : Value).ownBlock ∧ some k_ ≠ ((.slice Ao10 t102.length co10) : Value).ownBlock ∧ some k_ ≠ ((.slice Ao24 t113.length co24) : Value).ownBlock ∧ some k_ ≠ ((.slice Ao42 t130.length co42) : Value).ownBlock) (.slice Ao61 t147.length co61) t147) ∧ Aside0 (wc.heap[gb108]? = some (.cells #[(.slice Ao10 t102.length co10)] 26 (0, 0))) ∧ Aside0 (wc.heap[gb120]? = some (.cells #[(.slice Ao24 t113.length co24)] 26 (0, 0))) ∧ Aside0 (wc.heap[gb137]? = some (.cells #[(.slice Ao42 t130.length co42)] 26 (0, 0))) ∧ Aside0 (wc.heap[gb154]? = some (.cells #[(.slice Ao61 t147.length co61)] 26 (0, 0))) ∧ Aside0 (Below w.heap.size w wc))
                                          case first =>
                                            as_aux_lemma =>
                                             have H := HC104.out
                                             clear HC104
                                             by_cases c105 : t156 = 0
                                             · rw [if_pos c105] at H
                                               have c105b0 : (t156 == 0) = true := beq_iff_eq.mpr c105
                                               have c105b1 : (t156 != 0) = false := bne_eq_false_iff_eq.mpr c105
                                               clear c105
                                               (first | rw [c105b0] | (simp only [i64_w, i32_w]; rw [c105b0]) | skip)
                                               by_cases c106 : t160 = 0
                                               · rw [if_pos c106] at H
                                                 have c106b0 : (t160 == 0) = true := beq_iff_eq.mpr c106
                                                 have c106b1 : (t160 != 0) = false := bne_eq_false_iff_eq.mpr c106
                                                 clear c106
                                                 by_cases c107 : 0 ≤ t159
                                                 · rw [if_pos c107] at H
                                                   have c107b0 : decide (0 ≤ t159) = true := decide_eq_true c107
                                                   clear c107
                                                   by_cases c108 : t159 < (t150.length : Int)
                                                   · rw [if_pos c108] at H
                                                     have c108b0 : decide (t159 < (t150.length : Int)) = true := decide_eq_true c108
                                                     clear c108
                                                     by_cases c109 : ((t155 == (-1)) != (decide ((rd t150 t159) < t153))) = true
                                                     · rw [if_pos c109] at H
                                                       have c109b0 : ((t155 == (-1)) != (decide ((rd t150 t159) < t153))) = true := c109
                                                       (try (have c109b1 : decide ((t155 == (-1)) = (decide ((rd t150 t159) < t153))) = false := by simpa using c109))
                                                       (try (have c109b2 : ((t155 == (-1)) == (decide ((rd t150 t159) < t153))) = false := by simpa using c109))
                                                       (try (have c109b3 : ¬ ((t155 == (-1)) = (decide ((rd t150 t159) < t153))) := by simpa using c109))
                                                       clear c109
                                                       obtain rfl := Option.some.inj H
                                                       have p169 : 0 ≤ (t159 : Int) := zD
                                                       have q169 : t159 < (t150.length : Int) := zD
                                                       obtain ⟨ad169, e169, hx169_0⟩ := Kd.at_int (Kd.R_reads' HO_24.out).2.2 t159 p169 q169
                                                       cases e169
                                                       replace p169 := eq_true p169
                                                       replace q169 := eq_true q169
                                                       go_wp2
                                                       go_ret
                                                       exact ⟨zE, zB⟩
                                                     · rw [if_neg c109] at H
                                                       have c109b0 : ((t155 == (-1)) != (decide ((rd t150 t159) < t153))) = false := by simpa using c109
                                                       (try (have c109b1 : decide ((t155 == (-1)) = (decide ((rd t150 t159) < t153))) = true := by simpa using c109))
                                                       (try (have c109b2 : ((t155 == (-1)) == (decide ((rd t150 t159) < t153))) = true := by simpa using c109))
                                                       clear c109
                                                       by_cases c110 : t155 ≥ 0
                                                       · rw [if_pos c110] at H
                                                         have c110b0 : decide (0 ≤ t155) = true := decide_eq_true c110
                                                         clear c110
                                                         by_cases c111 : 0 ≤ t155
                                                         · rw [if_pos c111] at H
                                                           have c111b0 : decide (0 ≤ t155) = true := decide_eq_true c111
                                                           clear c111
                                                           by_cases c112 : t155 < (t150.length : Int)
                                                           · rw [if_pos c112] at H
                                                             have c112b0 : decide (t155 < (t150.length : Int)) = true := decide_eq_true c112
                                                             clear c112
                                                             by_cases c113 : (rd t150 t155) < t153
                                                             · rw [if_pos c113] at H
                                                               have c113b0 : decide ((rd t150 t155) < t153) = true := decide_eq_true c113
                                                               clear c113
                                                               obtain rfl := Option.some.inj H
                                                               have p169 : 0 ≤ (t159 : Int) := zD
                                                               have q169 : t159 < (t150.length : Int) := zD
                                                               obtain ⟨ad169, e169, hx169_0⟩ := Kd.at_int (Kd.R_reads' HO_24.out).2.2 t159 p169 q169
                                                               cases e169
                                                               replace p169 := eq_true p169
                                                               replace q169 := eq_true q169
                                                               have p170 : 0 ≤ (t155 : Int) := zD
                                                               have q170 : t155 < (t150.length : Int) := zD
                                                               obtain ⟨ad170, e170, hx170_0⟩ := Kd.at_int (Kd.R_reads' HO_24.out).2.2 t155 p170 q170
                                                               obtain rfl : ad169 = ad170 := (by injection e170)
                                                               replace p170 := eq_true p170
                                                               replace q170 := eq_true q170
                                                               go_wp2
                                                               go_ret
                                                               exact ⟨zE, zB⟩
                                                             · rw [if_neg c113] at H
                                                               have c113b0 : decide ((rd t150 t155) < t153) = false := decide_eq_false c113
                                                               clear c113
                                                               have H' := Aside0.mk H
                                                               clear H
                                                               have p169 : 0 ≤ (t159 : Int) := zD
                                                               have q169 : t159 < (t150.length : Int) := zD
                                                               obtain ⟨ad169, e169, hx169_0⟩ := Kd.at_int (Kd.R_reads' HO_24.out).2.2 t159 p169 q169
                                                               cases e169
                                                               replace p169 := eq_true p169
                                                               replace q169 := eq_true q169
                                                               have p170 : 0 ≤ (t155 : Int) := zD
                                                               have q170 : t155 < (t150.length : Int) := zD
                                                               obtain ⟨ad170, e170, hx170_0⟩ := Kd.at_int (Kd.R_reads' HO_24.out).2.2 t155 p170 q170
                                                               obtain rfl : ad169 = ad170 := (by injection e170)
                                                               replace p170 := eq_true p170
                                                               replace q170 := eq_true q170
                                                               go_wp2
                                                               go_meet
                                                               case rel => exact ⟨_, H', ⟨by have := HJ6.out; have := HJ20.out; have := HJ38.out; have := HJ57.out; have := HJ73.out; have := HJ85.out; first | omega | exact Nat.le_refl _⟩, ⟨by refine zR ?_; exact Kd.R_mono HO_12.out (fun _ hk => ⟨hk.2.1, ⟨hk.2.2.1, ⟨hk.2.2.2.1, hk.2.2.2.2⟩⟩⟩)⟩, ⟨by refine zR ?_; exact Kd.R_mono HO_109000.out (fun _ hk => ⟨hk.1, ⟨hk.2.2.1, ⟨hk.2.2.2.1, hk.2.2.2.2⟩⟩⟩)⟩, ⟨by refine zR ?_; exact Kd.R_mono HO_121000.out (fun _ hk => ⟨hk.1, ⟨hk.2.2.1, ⟨hk.2.2.2.1, hk.2.2.2.2⟩⟩⟩)⟩, ⟨by refine zR ?_; exact Kd.R_mono HO_138000.out (fun _ hk => ⟨hk.1, ⟨hk.2.2.1, ⟨hk.2.2.2.1, hk.2.2.2.2⟩⟩⟩)⟩, ⟨by refine zR ?_; exact Kd.R_mono HO_155000.out (fun _ hk => ⟨hk.1, ⟨hk.2.2.1, ⟨hk.2.2.2.1, hk.2.2.2.2⟩⟩⟩)⟩, ⟨zG BK108.out⟩, ⟨zG BK120.out⟩, ⟨zG BK137.out⟩, ⟨zG BK154.out⟩, ⟨zB⟩⟩
                                                           · rw [if_neg c112] at H
                                                             exact absurd H (by simp)
                                                         · rw [if_neg c111] at H
                                                           exact absurd H (by simp)
                                                       · rw [if_neg c110] at H
                                                         have c110b0 : decide (0 ≤ t155) = false := decide_eq_false c110
                                                         clear c110
                                                         have H' := Aside0.mk H
                                                         clear H
                                                         have p169 : 0 ≤ (t159 : Int) := zD
                                                         have q169 : t159 < (t150.length : Int) := zD
                                                         obtain ⟨ad169, e169, hx169_0⟩ := Kd.at_int (Kd.R_reads' HO_24.out).2.2 t159 p169 q169
                                                         cases e169
                                                         replace p169 := eq_true p169
                                                         replace q169 := eq_true q169
                                                         go_wp2
                                                         go_meet
                                                         case rel => exact ⟨_, H', ⟨by have := HJ6.out; have := HJ20.out; have := HJ38.out; have := HJ57.out; have := HJ73.out; have := HJ85.out; first | omega | exact Nat.le_refl _⟩, ⟨by refine zR ?_; exact Kd.R_mono HO_12.out (fun _ hk => ⟨hk.2.1, ⟨hk.2.2.1, ⟨hk.2.2.2.1, hk.2.2.2.2⟩⟩⟩)⟩, ⟨by refine zR ?_; exact Kd.R_mono HO_109000.out (fun _ hk => ⟨hk.1, ⟨hk.2.2.1, ⟨hk.2.2.2.1, hk.2.2.2.2⟩⟩⟩)⟩, ⟨by refine zR ?_; exact Kd.R_mono HO_121000.out (fun _ hk => ⟨hk.1, ⟨hk.2.2.1, ⟨hk.2.2.2.1, hk.2.2.2.2⟩⟩⟩)⟩, ⟨by refine zR ?_; exact Kd.R_mono HO_138000.out (fun _ hk => ⟨hk.1, ⟨hk.2.2.1, ⟨hk.2.2.2.1, hk.2.2.2.2⟩⟩⟩)⟩, ⟨by refine zR ?_; exact Kd.R_mono HO_155000.out (fun _ hk => ⟨hk.1, ⟨hk.2.2.1, ⟨hk.2.2.2.1, hk.2.2.2.2⟩⟩⟩)⟩, ⟨zG BK108.out⟩, ⟨zG BK120.out⟩, ⟨zG BK137.out⟩, ⟨zG BK154.out⟩, ⟨zB⟩⟩
                                                   · rw [if_neg c108] at H
                                                     exact absurd H (by simp)
                                                 · rw [if_neg c107] at H
                                                   exact absurd H (by simp)
                                               · rw [if_neg c106] at H
                                                 have c106b0 : (t160 == 0) = false := beq_eq_false_iff_ne.mpr c106
                                                 have c106b1 : (t160 != 0) = true := bne_iff_ne.mpr c106
                                                 obtain rfl := Option.some.inj H
                                                 go_wp2
                                                 go_ret
                                                 exact ⟨zE, zB⟩
                                             · rw [if_neg c105] at H
                                               have c105b0 : (t156 == 0) = false := beq_eq_false_iff_ne.mpr c105
                                               have c105b1 : (t156 != 0) = true := bne_iff_ne.mpr c105
                                               (first | rw [c105b0] | (simp only [i64_w, i32_w]; rw [c105b0]) | skip)
                                               have H' := Aside0.mk H
                                               clear H
                                               go_wp2
                                               go_meet
                                               case rel => exact ⟨_, H', ⟨by have := HJ6.out; have := HJ20.out; have := HJ38.out; have := HJ57.out; have := HJ73.out; have := HJ85.out; first | omega | exact Nat.le_refl _⟩, ⟨by refine zR ?_; exact Kd.R_mono HO_12.out (fun _ hk => ⟨hk.2.1, ⟨hk.2.2.1, ⟨hk.2.2.2.1, hk.2.2.2.2⟩⟩⟩)⟩, ⟨by refine zR ?_; exact Kd.R_mono HO_109000.out (fun _ hk => ⟨hk.1, ⟨hk.2.2.1, ⟨hk.2.2.2.1, hk.2.2.2.2⟩⟩⟩)⟩, ⟨by refine zR ?_; exact Kd.R_mono HO_121000.out (fun _ hk => ⟨hk.1, ⟨hk.2.2.1, ⟨hk.2.2.2.1, hk.2.2.2.2⟩⟩⟩)⟩, ⟨by refine zR ?_; exact Kd.R_mono HO_138000.out (fun _ hk => ⟨hk.1, ⟨hk.2.2.1, ⟨hk.2.2.2.1, hk.2.2.2.2⟩⟩⟩)⟩, ⟨by refine zR ?_; exact Kd.R_mono HO_155000.out (fun _ hk => ⟨hk.1, ⟨hk.2.2.1, ⟨hk.2.2.2.1, hk.2.2.2.2⟩⟩⟩)⟩, ⟨zG BK108.out⟩, ⟨zG BK120.out⟩, ⟨zG BK137.out⟩, ⟨zG BK154.out⟩, ⟨zB⟩⟩
                                          case rest =>
                                            as_aux_lemma =>
                                             clear HC104
                                             try clear c83
                                             try clear c103
                                             try clear hcz90_0
                                             try clear hcz92_0
                                             try clear hfz90_0
                                             try clear hfz92_0
                                             obtain ⟨kq, HA, HJ103, HO_12, HO_109000, HO_121000, HO_138000, HO_155000, BK108, BK120, BK137, BK154, HB⟩ := hcut
                                             cases kq with
                                             | zero => exact absurd HA.out (by simp [laws_FnGardens.j6])
                                             | succ kj103 =>
                                               have H := HA.out
                                               clear HA
                                               simp only [laws_FnGardens.j6] at H
                                               have HC114 := Aside0.mk H
                                               clear H
                                               go_upto_region 34 with (fail)
                                               go_cut [233] (fun u233_ wc => ∃ (kq : Nat) (x233_113 : Bool), u233_ = .bool x233_113 ∧ Aside0 (laws_FnGardens.j7 kq t109 t110 t163 t164 x233_113 = some r) ∧ Aside0 (kq ≤ kj103) ∧ Aside0 (Kd.R (Kd.int .i64) 2 wc w.heap.size (fun k_ => some k_ ≠ ((.slice Ao24 t113.length co24) : Value).ownBlock ∧ some k_ ≠ ((.slice Ao42 t130.length co42) : Value).ownBlock ∧ some k_ ≠ ((.slice Ao61 t147.length co61) : Value).ownBlock) (.slice Ao10 t102.length co10) t102) ∧ Aside0 (Kd.R (Kd.int .i64) 2 wc w.heap.size (fun k_ => some k_ ≠ ((.slice Ao10 t102.length co10) : Value).ownBlock ∧ some k_ ≠ ((.slice Ao42 t130.length co42) : Value).ownBlock ∧ some k_ ≠ ((.slice Ao61 t147.length co61) : Value).ownBlock) (.slice Ao24 t113.length co24) t113) ∧ Aside0 (Kd.R (Kd.int .i64) 2 wc w.heap.size (fun k_ => some k_ ≠ ((.slice Ao10 t102.length co10) : Value).ownBlock ∧ some k_ ≠ ((.slice Ao24 t113.length co24) : Value).ownBlock ∧ some k_ ≠ ((.slice Ao61 t147.length co61) : Value).ownBlock) (.slice Ao42 t130.length co42) t130) ∧ Aside0 (Kd.R (Kd.int .i64) 2 wc w.heap.size (fun k_ => some k_ ≠ ((.slice Ao10 t102.length co10) : Value).ownBlock ∧ some k_ ≠ ((.slice Ao24 t113.length co24) : Value).ownBlock ∧ some k_ ≠ ((.slice Ao42 t130.length co42) : Value).ownBlock) (.slice Ao61 t147.length co61) t147) ∧ Aside0 (wc.heap[gb108]? = some (.cells #[(.slice Ao10 t102.length co10)] 26 (0, 0))) ∧ Aside0 (wc.heap[gb120]? = some (.cells #[(.slice Ao24 t113.length co24)] 26 (0, 0))) ∧ Aside0 (wc.heap[gb137]? = some (.cells #[(.slice Ao42 t130.length co42)] 26 (0, 0))) ∧ Aside0 (wc.heap[gb154]? = some (.cells #[(.slice Ao61 t147.length co61)] 26 (0, 0))) ∧ Aside0 (Below w.heap.size w wc))
                                               case first =>
                                                 as_aux_lemma =>
                                                  have H := HC114.out
                                                  clear HC114
                                                  by_cases c115 : t124 = 0
                                                  · rw [if_pos c115] at H
                                                    have c115b0 : (t124 == 0) = true := beq_iff_eq.mpr c115
                                                    have c115b1 : (t124 != 0) = false := bne_eq_false_iff_eq.mpr c115
                                                    clear c115
                                                    (first | rw [c115b0] | (simp only [i64_w, i32_w]; rw [c115b0]) | skip)
                                                    by_cases c116 : t119 = 0
                                                    · rw [if_pos c116] at H
                                                      have c116b0 : (t119 == 0) = true := beq_iff_eq.mpr c116
                                                      have c116b1 : (t119 != 0) = false := bne_eq_false_iff_eq.mpr c116
                                                      clear c116
                                                      replace H := Option.bind_eq_some_iff.mp H
                                                      obtain ⟨t171, A1170, H⟩ := H
                                                      replace H : (laws_FnGardens.j7 kj103 t109 t110 t163 t164 (t171 != 0)) = some r := H
                                                      have A117 := Aside0.mk A1170
                                                      clear A1170
                                                      have H' := Aside0.mk H
                                                      clear H
                                                      obtain ⟨Ao118, co118, eo118⟩ := Kd.R_slice HO_12.out
                                                      subst eo118
                                                      go_wp2_with (first | (go_at_call 24; (with_reducible refine (laws_sum.calls kj103 _ _ t121 t171 _ ?side1 ?side2 A117.out).mono ?_); (case side1 => exact zC (Kd.R_reads' HO_12.out).2.2); (case side2 => exact (Kd.R_reads' HO_12.out).2.1); rintro e w' ⟨rfl, ⟨nd, rfl⟩⟩))
                                                      go_meet
                                                      case rel => exact ⟨_, ((t171 != 0)), zF, H', ⟨by have := HJ6.out; have := HJ20.out; have := HJ38.out; have := HJ57.out; have := HJ73.out; have := HJ85.out; have := HJ103.out; first | omega | exact Nat.le_refl _⟩, ⟨by refine zR ?_; exact Kd.R_mono HO_109000.out (fun _ hk => ⟨hk.2.1, ⟨hk.2.2.1, hk.2.2.2⟩⟩)⟩, ⟨by refine zR ?_; exact Kd.R_mono HO_121000.out (fun _ hk => ⟨hk.2.1, ⟨hk.2.2.1, hk.2.2.2⟩⟩)⟩, ⟨by refine zR ?_; exact Kd.R_mono HO_138000.out (fun _ hk => ⟨hk.2.1, ⟨hk.2.2.1, hk.2.2.2⟩⟩)⟩, ⟨by refine zR ?_; exact Kd.R_mono HO_155000.out (fun _ hk => ⟨hk.2.1, ⟨hk.2.2.1, hk.2.2.2⟩⟩)⟩, ⟨zG BK108.out⟩, ⟨zG BK120.out⟩, ⟨zG BK137.out⟩, ⟨zG BK154.out⟩, ⟨zB⟩⟩
                                                    · rw [if_neg c116] at H
                                                      have c116b0 : (t119 == 0) = false := beq_eq_false_iff_ne.mpr c116
                                                      have c116b1 : (t119 != 0) = true := bne_iff_ne.mpr c116
                                                      have H' := Aside0.mk H
                                                      clear H
                                                      go_wp2
                                                      go_meet
                                                      case rel => exact ⟨_, (false), zF, H', ⟨by have := HJ6.out; have := HJ20.out; have := HJ38.out; have := HJ57.out; have := HJ73.out; have := HJ85.out; have := HJ103.out; first | omega | exact Nat.le_refl _⟩, ⟨by refine zR ?_; exact Kd.R_mono HO_109000.out (fun _ hk => ⟨hk.2.1, ⟨hk.2.2.1, hk.2.2.2⟩⟩)⟩, ⟨by refine zR ?_; exact Kd.R_mono HO_121000.out (fun _ hk => ⟨hk.2.1, ⟨hk.2.2.1, hk.2.2.2⟩⟩)⟩, ⟨by refine zR ?_; exact Kd.R_mono HO_138000.out (fun _ hk => ⟨hk.2.1, ⟨hk.2.2.1, hk.2.2.2⟩⟩)⟩, ⟨by refine zR ?_; exact Kd.R_mono HO_155000.out (fun _ hk => ⟨hk.2.1, ⟨hk.2.2.1, hk.2.2.2⟩⟩)⟩, ⟨zG BK108.out⟩, ⟨zG BK120.out⟩, ⟨zG BK137.out⟩, ⟨zG BK154.out⟩, ⟨zB⟩⟩
                                                  · rw [if_neg c115] at H
                                                    have c115b0 : (t124 == 0) = false := beq_eq_false_iff_ne.mpr c115
                                                    have c115b1 : (t124 != 0) = true := bne_iff_ne.mpr c115
                                                    (first | rw [c115b0] | (simp only [i64_w, i32_w]; rw [c115b0]) | skip)
                                                    have H' := Aside0.mk H
                                                    clear H
                                                    go_wp2
                                                    go_meet
                                                    case rel => exact ⟨_, (false), zF, H', ⟨by have := HJ6.out; have := HJ20.out; have := HJ38.out; have := HJ57.out; have := HJ73.out; have := HJ85.out; have := HJ103.out; first | omega | exact Nat.le_refl _⟩, ⟨by refine zR ?_; exact Kd.R_mono HO_109000.out (fun _ hk => ⟨hk.2.1, ⟨hk.2.2.1, hk.2.2.2⟩⟩)⟩, ⟨by refine zR ?_; exact Kd.R_mono HO_121000.out (fun _ hk => ⟨hk.2.1, ⟨hk.2.2.1, hk.2.2.2⟩⟩)⟩, ⟨by refine zR ?_; exact Kd.R_mono HO_138000.out (fun _ hk => ⟨hk.2.1, ⟨hk.2.2.1, hk.2.2.2⟩⟩)⟩, ⟨by refine zR ?_; exact Kd.R_mono HO_155000.out (fun _ hk => ⟨hk.2.1, ⟨hk.2.2.1, hk.2.2.2⟩⟩)⟩, ⟨zG BK108.out⟩, ⟨zG BK120.out⟩, ⟨zG BK137.out⟩, ⟨zG BK154.out⟩, ⟨zB⟩⟩
                                               case rest =>
                                                 as_aux_lemma =>
                                                  clear HC114
                                                  try clear c83
                                                  try clear c103
                                                  try clear hcz90_0
                                                  try clear hcz92_0
                                                  try clear hfz90_0
                                                  try clear hfz92_0
                                                  obtain ⟨kq, x233_113, rfl, HA, HJ113, HO_109000, HO_121000, HO_138000, HO_155000, BK108, BK120, BK137, BK154, HB⟩ := hcut
                                                  cases kq with
                                                  | zero => exact absurd HA.out (by simp [laws_FnGardens.j7])
                                                  | succ kj113 =>
                                                    have H := HA.out
                                                    clear HA
                                                    simp only [laws_FnGardens.j7] at H
                                                    by_cases c119 : x233_113 = true
                                                    · subst c119
                                                      have H1 : (some false) = some r := by rw [if_pos rfl] at H; exact H
                                                      clear H
                                                      have H := H1
                                                      clear H1
                                                      obtain rfl := Option.some.inj H
                                                      go_wp2
                                                      go_ret
                                                      exact ⟨zE, zB⟩
                                                    · replace c119 := Bool.eq_false_iff.mpr c119
                                                      subst c119
                                                      have H1 : (if t110 = 0 then (if t164 = 0 then (some (decide (t109 ≥ t163))) else (some false)) else (some (t109 == 0))) = some r := by rw [if_neg (show ¬ (false = true) by decide)] at H; exact H
                                                      clear H
                                                      have H := H1
                                                      clear H1
                                                      by_cases c120 : t110 = 0
                                                      · rw [if_pos c120] at H
                                                        have c120b0 : (t110 == 0) = true := beq_iff_eq.mpr c120
                                                        have c120b1 : (t110 != 0) = false := bne_eq_false_iff_eq.mpr c120
                                                        clear c120
                                                        by_cases c121 : t164 = 0
                                                        · rw [if_pos c121] at H
                                                          have c121b0 : (t164 == 0) = true := beq_iff_eq.mpr c121
                                                          have c121b1 : (t164 != 0) = false := bne_eq_false_iff_eq.mpr c121
                                                          clear c121
                                                          obtain rfl := Option.some.inj H
                                                          go_wp2
                                                          go_ret
                                                          exact ⟨zE, zB⟩
                                                        · rw [if_neg c121] at H
                                                          have c121b0 : (t164 == 0) = false := beq_eq_false_iff_ne.mpr c121
                                                          have c121b1 : (t164 != 0) = true := bne_iff_ne.mpr c121
                                                          obtain rfl := Option.some.inj H
                                                          go_wp2
                                                          go_ret
                                                          exact ⟨zE, zB⟩
                                                      · rw [if_neg c120] at H
                                                        have c120b0 : (t110 == 0) = false := beq_eq_false_iff_ne.mpr c120
                                                        have c120b1 : (t110 != 0) = true := bne_iff_ne.mpr c120
                                                        obtain rfl := Option.some.inj H
                                                        go_wp2
                                                        go_ret
                                                        exact ⟨zE, zB⟩
/-- THE ONE PURE STATEMENT of laws_FnGardens: yours. -/
def laws_FnGardens.Pure : Prop := ∀ (l0 : List Int), l0.length ≤ maxLen → l0.length * 1 ≤ 140737488351232 → (∀ x ∈ l0, (Lit.int .u8 x).wf = true) → ∃ k, laws_FnGardens.f k l0 = some true
theorem laws_FnGardens.walk (P : laws_FnGardens.Pure) (a0 : Option Addr) (len0 cap0 : Nat) (z0 : List Int) (w : World) (w0 : (a0 = none ∧ len0 = 0 ∧ cap0 = 0 ∧ z0 = []) ∨ ∃ x, a0 = some x ∧ len0 ≤ cap0 ∧ cap0 ≤ maxLen ∧ z0.length = cap0 ∧ (∀ i, i < z0.length → w.cell? (x.add i) = some (.int .u8 (z0.getD i 0))) ∧ ∀ n ∈ z0, (Lit.int .u8 n).wf = true) (y0 : len0 * 1 ≤ 140737488351232) :
    Calls Try.prog 3 #[.slice a0 len0 cap0] w fun e w' => e = .returned (.bool true) ∧ Below w.heap.size w w' := by
 obtain ⟨l0, rfl, hr0, hm0, hw0, hc0⟩ := ReadsInt.ofRowC w0
 obtain ⟨k, h⟩ := P l0 hm0 y0 hw0
 refine (laws_FnGardens.calls k _ _ l0 true w (Kd.C_of_reads (d := (0 : Int)) (h1 := fun _ => rfl) hr0) hc0 h).mono ?_
 rintro e w' ⟨rfl, hd⟩
 exact ⟨rfl, hd⟩
end Go.Proofs.Ytgmciimgmnnhmaa.P
end
section
namespace Go.Proofs.Ytgmciimgmnnhmaa.Pure
open Go.RowKit Go.Proofs.Ytgmciimgmnnhmaa.P Go.Proofs.YtgmciimgmnnhmaaW.PrintWords Go.Proofs.YtgmciimgmnnhmaaW.PrintLast Go.Proofs.YtgmciimgmnnhmaaW.PrintMore
set_option linter.unusedVariables false
set_option linter.unusedSimpArgs false
theorem l01In_f (n lo hi : Int) : spec_l01In.f n lo hi = some (decide (lo ≤ n ∧ n ≤ hi)) := by
  unfold spec_l01In.f
  by_cases h : n ≥ lo
  · rw [if_pos h]; simp [show lo ≤ n from h]
  · rw [if_neg h]; simp [show ¬ lo ≤ n from h]
theorem all_take_succ {α : Type} (p : α → Bool) (l : List α) (n : Nat) (h : n < l.length) : (l.take (n + 1)).all p = ((l.take n).all p && p l[n]) := by
  rw [List.take_succ_eq_append_getElem h, List.all_append]; simp
theorem all_false_at {α : Type} (p : α → Bool) (l : List α) (n : Nat) (h : n < l.length) (hp : p l[n] = false) : l.all p = false := by
  rw [Bool.eq_false_iff]
  intro ha
  rw [List.all_eq_true] at ha
  rw [ha _ (List.getElem_mem h)] at hp
  cases hp
end Go.Proofs.Ytgmciimgmnnhmaa.Pure
end
section
namespace Go.Proofs.Ytgmciimgmnnhmaa.Pure
open Go.RowKit Go.Proofs.Ytgmciimgmnnhmaa.P Go.Proofs.YtgmciimgmnnhmaaW.PrintWords Go.Proofs.YtgmciimgmnnhmaaW.PrintLast Go.Proofs.YtgmciimgmnnhmaaW.PrintMore
set_option linter.unusedVariables false
set_option linter.unusedSimpArgs false
theorem ev_pos {α : Type} {c : Prop} [Decidable c] {A B : Nat → Option α} {r : α} (h : c) (e : Ev A r) : Ev (fun n => if c then A n else B n) r := Ev.congr (fun n => if_pos h) e
theorem ev_neg {α : Type} {c : Prop} [Decidable c] {A B : Nat → Option α} {r : α} (h : ¬ c) (e : Ev B r) : Ev (fun n => if c then A n else B n) r := Ev.congr (fun n => if_neg h) e
theorem ev_now {α : Type} (r : α) : Ev (fun _ => some r) r := Ev.now r
theorem ev_is {α : Type} {g : Option α} {r : α} (h : g = some r) : Ev (fun _ => g) r := by subst h; exact Ev.now r
theorem ev_bind {α β : Type} {g : Nat → Option α} {f : Nat → α → Option β} {a : α} {r : β} (h : Ev g a) (k : Ev (fun n => f n a) r) : Ev (fun n => (g n).bind (f n)) r := Ev.bind h k
theorem ev_fix {α β : Type} {g : Option α} {f : Nat → α → Option β} {a : α} {r : β} (h : g = some a) (k : Ev (fun n => f n a) r) : Ev (fun n => g.bind (f n)) r := by subst h; exact k
theorem ev_rounds {α : Type} {g : Nat → Option α} {r : α} (h : Ev g r) : ∃ k, g k = some r := h.rounds
theorem wrap_id {x : Int} (h1 : -9223372036854775808 ≤ x) (h2 : x ≤ 9223372036854775807) : wrap64 x = x := by unfold wrap64; omega
theorem wrap_succ {n : Nat} (h : n + 1 ≤ 9223372036854775807) : wrap64 ((n : Int) + 1) = ((n + 1 : Nat) : Int) := by rw [wrap_id (by omega) (by omega)]; omega
theorem rd_nat {l : List Int} {n : Nat} (h : n < l.length) : rd l (n : Int) = l[n] := by simp [rd, h]
end Go.Proofs.Ytgmciimgmnnhmaa.Pure
end
section
namespace Go.Proofs.Ytgmciimgmnnhmaa.Pure
set_option linter.unusedVariables false
set_option linter.unusedSimpArgs false
/-- the slots at which turns hold x, counted from o -/
def posOf (x : Int) : Int → List Int → List Int
  | _, [] => []
  | o, y :: l => if y = x then o :: posOf x (o + 1) l else posOf x (o + 1) l
theorem posOf_append (x : Int) (l m : List Int) : ∀ o, posOf x o (l ++ m) = posOf x o l ++ posOf x (o + l.length) m := by
  induction l with
  | nil => intro o; simp [posOf]
  | cons y l ih =>
    intro o
    simp only [List.cons_append, posOf, ih, List.length_cons]
    rw [show o + ((l.length + 1 : Nat) : Int) = o + 1 + (l.length : Int) by omega]
    split <;> simp
theorem posOf_take_succ (x : Int) (l : List Int) (n : Nat) (h : n < l.length) : posOf x 0 (l.take (n + 1)) = posOf x 0 (l.take n) ++ (if l[n] = x then [(n : Int)] else []) := by
  rw [List.take_succ_eq_append_getElem h, posOf_append]
  congr 1
  rw [List.length_take, Nat.min_eq_left (by omega)]
  simp [posOf]
theorem posOf_range (x : Int) (l : List Int) : ∀ o, ∀ y ∈ posOf x o l, o ≤ y ∧ y < o + l.length := by
  induction l with
  | nil => intro o y hy; simp [posOf] at hy
  | cons z l ih =>
    intro o y hy
    simp only [posOf] at hy
    simp only [List.length_cons]
    split at hy
    · rcases List.mem_cons.1 hy with rfl | hy
      · omega
      · have := ih _ _ hy; omega
    · have := ih _ _ hy; omega
theorem posOf_length (x : Int) (l : List Int) : ∀ o, (posOf x o l).length ≤ l.length := by
  induction l with
  | nil => intro o; simp [posOf]
  | cons z l ih =>
    intro o
    simp only [posOf]
    have := ih (o + 1)
    split <;> simp only [List.length_cons] <;> omega
/-- the differences of neighbours -/
def diffs : List Int → List Int
  | a :: b :: t => (b - a) :: diffs (b :: t)
  | [_] => []
  | [] => []
theorem diffs_length : ∀ p : List Int, (diffs p).length = p.length - 1
  | a :: b :: t => by simp only [diffs, List.length_cons, diffs_length (b :: t)]; omega
  | [_] => rfl
  | [] => rfl
theorem diffs_get : ∀ (p : List Int) (i : Nat), i + 1 < p.length → (diffs p)[i]? = some (p.getD (i + 1) 0 - p.getD i 0)
  | a :: b :: t, 0, _ => by simp [diffs]
  | a :: b :: t, i + 1, h => by
    simp only [diffs, List.getElem?_cons_succ]
    rw [diffs_get (b :: t) i (by simp only [List.length_cons] at h ⊢; omega)]
    simp
  | [_], i, h => by simp at h
  | [], i, h => by simp at h
theorem diffs_snoc : ∀ (p : List Int) (n d : Int), p ≠ [] → diffs (p ++ [n]) = diffs p ++ [n - p.getLastD d]
  | [], _, _, h => absurd rfl h
  | [a], n, d, _ => by simp [diffs]
  | a :: b :: t, n, d, _ => by
    have := diffs_snoc (b :: t) n d (by simp)
    simp only [List.cons_append, diffs] at this ⊢
    rw [this]
    simp
/-- the waits of x in turns, round and round -/
def waitsOf (l : List Int) (x : Int) : List Int :=
  if posOf x 0 l = [] then [] else diffs (posOf x 0 l) ++ [(l.length : Int) - (posOf x 0 l).getLastD (-1) + (posOf x 0 l).headD (-1)]
theorem headD_mem {p : List Int} (h : p ≠ []) (d : Int) : p.headD d ∈ p := by cases p with | nil => exact absurd rfl h | cons a t => simp
theorem getLastD_mem {p : List Int} (h : p ≠ []) (d : Int) : p.getLastD d ∈ p := by
  cases p with
  | nil => exact absurd rfl h
  | cons a t => simp only [List.getLastD_cons]; exact List.getLastD_mem_cons
theorem waitsOf_length (l : List Int) (x : Int) : (waitsOf l x).length = (posOf x 0 l).length := by
  unfold waitsOf
  split
  · next h => rw [h]
  · next h =>
    have : 0 < (posOf x 0 l).length := List.length_pos_iff.2 h
    rw [List.length_append, diffs_length, List.length_singleton]; omega
end Go.Proofs.Ytgmciimgmnnhmaa.Pure
end
section
namespace Go.Proofs.Ytgmciimgmnnhmaa.Pure
open Go.RowKit Go.Proofs.Ytgmciimgmnnhmaa.P Go.Proofs.YtgmciimgmnnhmaaW.PrintWords Go.Proofs.YtgmciimgmnnhmaaW.PrintLast Go.Proofs.YtgmciimgmnnhmaaW.PrintMore
set_option linter.unusedVariables false
set_option linter.unusedSimpArgs false
/-- the greatest of a list, and 0 -/
def great (l : List Int) : Int := l.foldl mx 0
theorem le_mx (a b : Int) : a ≤ mx a b ∧ b ≤ mx a b := by unfold mx; split <;> omega
theorem le_foldl_mx (l : List Int) : ∀ a, a ≤ l.foldl mx a ∧ ∀ x ∈ l, x ≤ l.foldl mx a := by
  induction l with
  | nil => intro a; simp
  | cons y l ih =>
    intro a
    have h := ih (mx a y)
    have h2 := le_mx a y
    simp only [List.foldl_cons]
    refine ⟨by omega, ?_⟩
    intro x hx
    rcases List.mem_cons.1 hx with rfl | hx
    · omega
    · exact h.2 x hx
theorem great_take_succ (l : List Int) (n : Nat) (h : n < l.length) : great (l.take (n + 1)) = mx (great (l.take n)) l[n] := by
  rw [List.take_succ_eq_append_getElem h, great, List.foldl_append]; rfl
theorem great_pos {l : List Int} {x : Int} (h : x ∈ l) : x ≤ great l := (le_foldl_mx l 0).2 x h
theorem great_wait_pos {l : List Int} {x : Int} (h : posOf x 0 l ≠ []) : 1 ≤ great (waitsOf l x) := by
  have h1 := posOf_range x l 0 _ (headD_mem h (-1))
  have h2 := posOf_range x l 0 _ (getLastD_mem h (-1))
  have h3 : (l.length : Int) - (posOf x 0 l).getLastD (-1) + (posOf x 0 l).headD (-1) ∈ waitsOf l x := by
    rw [waitsOf, if_neg h]; simp
  have := great_pos h3
  omega
end Go.Proofs.Ytgmciimgmnnhmaa.Pure
end
section
namespace Go.Proofs.Ytgmciimgmnnhmaa.Pure
open Go.RowKit Go.Proofs.Ytgmciimgmnnhmaa.P Go.Proofs.YtgmciimgmnnhmaaW.PrintWords Go.Proofs.YtgmciimgmnnhmaaW.PrintLast Go.Proofs.YtgmciimgmnnhmaaW.PrintMore
set_option linter.unusedVariables false
set_option linter.unusedSimpArgs false
def isTurns (l : List Int) (k : Int) : Bool := decide (1 ≤ (l.length : Int) ∧ (l.length : Int) ≤ 120) && l.all fun i => decide (-1 ≤ i ∧ i ≤ wrap64 (k - 1))
theorem areTurns_f (l : List Int) (k : Int) : impl_areTurns.f l k = some (isTurns l k) := rfl
theorem l01Turns_l0 (l : List Int) (m : Int) (hl : l.length ≤ 9223372036854775807) : ∀ d n : Nat, n + d = l.length → (l.take n).all (fun i => decide (-1 ≤ i ∧ i ≤ wrap64 (m - 1))) = true → Ev (fun k => spec_l01Turns.l0 k l m (n : Int)) (isTurns l m) := by
  intro d
  induction d with
  | zero =>
    intro n hn ha
    refine Ev.step (fun k => by rw [spec_l01Turns.l0]) ?_
    refine ev_neg (by omega) (ev_fix (l01In_f _ _ _) ?_)
    rw [List.take_of_length_le (by omega)] at ha
    refine ev_is ?_
    rw [isTurns, ha, Bool.and_true]
  | succ d ih =>
    intro n hn ha
    have hlt : n < l.length := by omega
    refine Ev.step (fun k => by rw [spec_l01Turns.l0]) ?_
    refine ev_pos (by omega) (ev_pos (by omega) (ev_fix (l01In_f _ _ _) ?_))
    rw [rd_nat hlt]
    cases hq : decide (-1 ≤ l[n] ∧ l[n] ≤ wrap64 (m - 1)) with
    | true =>
      refine ev_pos rfl ?_
      rw [wrap_succ (by omega)]
      exact ih (n + 1) (by omega) (by rw [all_take_succ _ _ _ hlt, ha, hq]; rfl)
    | false =>
      refine ev_neg (by simp) (ev_is ?_)
      rw [isTurns, all_false_at _ l n hlt hq, Bool.and_false]
theorem l01Turns_ev (l : List Int) (m : Int) (hl : l.length ≤ 9223372036854775807) : Ev (fun k => spec_l01Turns.f k l m) (isTurns l m) := by
  unfold spec_l01Turns.f
  exact l01Turns_l0 l m hl l.length 0 (by omega) (by simp)
theorem isTurns_len {l : List Int} {k : Int} (h : isTurns l k = true) : 1 ≤ l.length ∧ l.length ≤ 120 := by
  rw [isTurns, Bool.and_eq_true] at h
  have := of_decide_eq_true h.1
  omega
theorem isTurns_mem {l : List Int} {k : Int} (h : isTurns l k = true) {x : Int} (hx : x ∈ l) : -1 ≤ x ∧ x ≤ wrap64 (k - 1) := by
  rw [isTurns, Bool.and_eq_true, List.all_eq_true] at h
  exact of_decide_eq_true (h.2 x hx)
end Go.Proofs.Ytgmciimgmnnhmaa.Pure
end
section
namespace Go.Proofs.Ytgmciimgmnnhmaa.Pure
open Go.RowKit Go.Proofs.Ytgmciimgmnnhmaa.P Go.Proofs.YtgmciimgmnnhmaaW.PrintWords Go.Proofs.YtgmciimgmnnhmaaW.PrintLast Go.Proofs.YtgmciimgmnnhmaaW.PrintMore
set_option linter.unusedVariables false
set_option linter.unusedSimpArgs false
theorem great_nonneg (l : List Int) : 0 ≤ great l := (le_foldl_mx l 0).1
theorem great_le {l : List Int} {b : Int} (hb : 0 ≤ b) (h : ∀ x ∈ l, x ≤ b) : great l ≤ b := by
  have : ∀ (m : List Int) (a : Int), a ≤ b → (∀ x ∈ m, x ≤ b) → m.foldl mx a ≤ b := by
    intro m
    induction m with
    | nil => intro a ha _; exact ha
    | cons y m ih =>
      intro a ha hm
      refine ih _ ?_ fun x hx => hm x (List.mem_cons_of_mem _ hx)
      have := hm y List.mem_cons_self
      unfold mx; split <;> omega
  exact this l 0 hb h
theorem Max_l0 (l : List Int) (hl : l.length ≤ 1048576) (a : Int) : ∀ d n : Nat, n + d = l.length →
    Ev (fun k => slices_Max_Sint64_int64.l0 k l ((l.take n).foldl mx a) (n : Int)) (l.foldl mx a) := by
  intro d
  induction d with
  | zero =>
    intro n hn
    rw [List.take_of_length_le (by omega)]
    exact Ev.step (fun k => by rw [slices_Max_Sint64_int64.l0]) (ev_neg (by omega) (ev_now _))
  | succ d ih =>
    intro n hn
    have hlt : n < l.length := by omega
    refine Ev.step (fun k => by rw [slices_Max_Sint64_int64.l0]) (ev_pos (by omega) (ev_pos (by omega) ?_))
    rw [rd_nat hlt, wrap_succ (by omega)]
    have ih := ih (n + 1) (by omega)
    rw [List.take_succ_eq_append_getElem hlt, List.foldl_append] at ih
    exact ih
theorem mx_self (a : Int) : mx a a = a := by unfold mx; split <;> rfl
theorem Max_ev (l : List Int) (hl : l.length ≤ 1048576) (h0 : 1 ≤ l.length) (hp : ∀ x ∈ l, 0 ≤ x) : Ev (fun k => slices_Max_Sint64_int64.f k l) (great l) := by
  unfold slices_Max_Sint64_int64.f
  refine ev_neg (by omega) (ev_pos (by omega) ?_)
  cases l with
  | nil => simp at h0
  | cons y l =>
    have hy := hp y List.mem_cons_self
    have h1 := Max_l0 (y :: l) hl y l.length 1 (by simp only [List.length_cons]; omega)
    have e0 : great (y :: l) = (y :: l).foldl mx y := by
      have : mx 0 y = y := by unfold mx; split <;> omega
      simp only [great, List.foldl_cons, this, mx_self]
    have e1 : ((y :: l).take 1).foldl mx y = y := by simp [mx_self]
    rw [e1, ← e0] at h1
    exact h1
end Go.Proofs.Ytgmciimgmnnhmaa.Pure
end
section
namespace Go.Proofs.Ytgmciimgmnnhmaa.Pure
open Go.RowKit Go.Proofs.Ytgmciimgmnnhmaa.P Go.Proofs.YtgmciimgmnnhmaaW.PrintWords Go.Proofs.YtgmciimgmnnhmaaW.PrintLast Go.Proofs.YtgmciimgmnnhmaaW.PrintMore
set_option linter.unusedVariables false
set_option linter.unusedSimpArgs false
/-- the digit of the road between two places -/
def roadOf (i j : Int) : Int := 2 ^ ((max i j) * ((max i j) - 1) / 2 + min i j).toNat
/-- Two places are near: the same, or joined. -/
def nearB (b i j : Int) : Bool := if i = j then true else Go.bits .and .i64 b (roadOf i j) != 0
end Go.Proofs.Ytgmciimgmnnhmaa.Pure
end
section
namespace Go.Proofs.Ytgmciimgmnnhmaa.Pure
open Go.RowKit Go.Proofs.Ytgmciimgmnnhmaa.P Go.Proofs.YtgmciimgmnnhmaaW.PrintWords Go.Proofs.YtgmciimgmnnhmaaW.PrintLast Go.Proofs.YtgmciimgmnnhmaaW.PrintMore
set_option linter.unusedVariables false
set_option linter.unusedSimpArgs false
theorem rd_set {l : List Int} {b i : Nat} {x : Int} (hb : b < l.length) : rd (l.set b x) (i : Nat) = if i = b then x else rd l (i : Nat) := by
  simp only [rd, Int.toNat_natCast, List.getD_eq_getElem?_getD, List.getElem?_set]
  by_cases h : b = i
  · subst h; simp [hb]
  · rw [if_neg h, if_neg (fun e => h e.symm)]
end Go.Proofs.Ytgmciimgmnnhmaa.Pure
end
section
namespace Go.Proofs.Ytgmciimgmnnhmaa.Pure
open Go.RowKit Go.Proofs.Ytgmciimgmnnhmaa.P Go.Proofs.YtgmciimgmnnhmaaW.PrintWords Go.Proofs.YtgmciimgmnnhmaaW.PrintLast Go.Proofs.YtgmciimgmnnhmaaW.PrintMore
set_option linter.unusedVariables false
set_option linter.unusedSimpArgs false
def neg : List Int → Nat
  | [] => 0
  | y :: l => (if y < 0 then 1 else 0) + neg l
theorem neg_set (v : Int) (hv : 0 ≤ v) : ∀ (l : List Int) (n : Nat) (h : n < l.length), l[n] < 0 → neg (l.set n v) + 1 = neg l := by
  intro l
  induction l with
  | nil => intro n h; simp at h
  | cons y l ih =>
    intro n h hn
    cases n with
    | zero =>
      simp only [List.getElem_cons_zero] at hn
      simp only [List.set_cons_zero, neg]
      rw [if_neg (by omega), if_pos hn]
      omega
    | succ n =>
      simp only [List.getElem_cons_succ] at hn
      simp only [List.set_cons_succ, neg]
      have := ih n (by simpa using h) hn
      omega
def stepJ (b h : Int) (j : Nat) (s : List Int × List Int) : List Int × List Int := if rd s.1 (j : Int) < 0 ∧ nearB b h (j : Int) = true then (s.1.set j (rd s.1 h + 1), s.2 ++ [(j : Int)]) else s
def inJ (b h : Int) : Nat → Nat → List Int × List Int → List Int × List Int
  | 0, _, s => s
  | d + 1, j, s => inJ b h d (j + 1) (stepJ b h j s)
structure Bfs (a : Nat) (s : List Int × List Int) : Prop where
  len : s.1.length = a
  mem : ∀ x ∈ s.2, 0 ≤ x ∧ x < (a : Int) ∧ 0 ≤ rd s.1 x
  hi : ∀ i : Nat, i < a → rd s.1 (i : Int) ≤ (s.2.length : Int)
  num : s.2.length + neg s.1 ≤ a
theorem Bfs.step {a : Nat} {b h : Int} {j : Nat} {s : List Int × List Int} (B : Bfs a s) (hj : j < a) (hh : 0 ≤ h ∧ h < (a : Int) ∧ 0 ≤ rd s.1 h) : Bfs a (stepJ b h j s) := by
  unfold stepJ
  split
  · next c =>
    have hl := B.len
    refine ⟨by rw [List.length_set]; exact hl, fun x hx => ?_, fun i hi => ?_, ?_⟩
    · rcases List.mem_append.1 hx with hx | hx
      · obtain ⟨h1, h2, h3⟩ := B.mem x hx
        obtain ⟨n, rfl⟩ : ∃ n : Nat, x = n := ⟨x.toNat, by omega⟩
        refine ⟨h1, h2, ?_⟩
        show 0 ≤ rd (s.1.set j _) (n : Int)
        rw [rd_set (by omega)]
        split <;> omega
      · rw [List.mem_singleton.1 hx]
        refine ⟨by omega, by omega, ?_⟩
        show 0 ≤ rd (s.1.set j _) (j : Int)
        rw [rd_set (by omega), if_pos rfl]
        omega
    · have h1 := B.hi i hi
      have h2 := B.hi h.toNat (by omega)
      rw [show ((h.toNat : Nat) : Int) = h by omega] at h2
      show rd (s.1.set j _) (i : Int) ≤ ((s.2 ++ [(j : Int)]).length : Int)
      rw [rd_set (by omega), List.length_append, List.length_singleton]
      split <;> omega
    · have c1 := c.1
      rw [rd_nat (by omega)] at c1
      have := neg_set (rd s.1 h + 1) (by omega) s.1 j (by omega) c1
      have := B.num
      show (s.2 ++ [(j : Int)]).length + neg (s.1.set j (rd s.1 h + 1)) ≤ a
      rw [List.length_append, List.length_singleton]
      omega
  · exact B
theorem stepJ_head {a : Nat} {b h : Int} {j : Nat} {s : List Int × List Int} (B : Bfs a s) (hj : j < a) (hh : 0 ≤ h ∧ h < (a : Int) ∧ 0 ≤ rd s.1 h) : 0 ≤ rd (stepJ b h j s).1 h := by
  unfold stepJ
  split
  · have hl := B.len
    obtain ⟨n, rfl⟩ : ∃ n : Nat, h = n := ⟨h.toNat, by omega⟩
    show 0 ≤ rd (s.1.set j _) (n : Int)
    rw [rd_set (by omega)]
    split <;> omega
  · exact hh.2.2
theorem Bfs.inner {a : Nat} {b h : Int} : ∀ d j : Nat, j + d = a → ∀ s : List Int × List Int, Bfs a s → (0 ≤ h ∧ h < (a : Int) ∧ 0 ≤ rd s.1 h) → Bfs a (inJ b h d j s) := by
  intro d
  induction d with
  | zero => intro j _ s B _; exact B
  | succ d ih => intro j hj s B hh; exact ih (j + 1) (by omega) _ (B.step (by omega) hh) ⟨hh.1, hh.2.1, stepJ_head B (by omega) hh⟩
end Go.Proofs.Ytgmciimgmnnhmaa.Pure
end
section
namespace Go.Proofs.Ytgmciimgmnnhmaa.Pure
open Go.RowKit Go.Proofs.Ytgmciimgmnnhmaa.P Go.Proofs.YtgmciimgmnnhmaaW.PrintWords Go.Proofs.YtgmciimgmnnhmaaW.PrintLast Go.Proofs.YtgmciimgmnnhmaaW.PrintMore
set_option linter.unusedVariables false
set_option linter.unusedSimpArgs false
theorem likeInts_ev (l : List Int) (hl : l.length ≤ 1048576) : Ev (fun k => laws_likeInts.f k l l) true := by
  have main : ∀ d n : Nat, n + d = l.length → Ev (fun k => laws_likeInts.l0 k l l (n : Int)) true := by
    intro d
    induction d with
    | zero =>
      intro n hn
      exact Ev.step (fun k => by rw [laws_likeInts.l0]) (ev_neg (by omega) (ev_now _))
    | succ d ih =>
      intro n hn
      refine Ev.step (fun k => by rw [laws_likeInts.l0]) (ev_pos (by omega) (ev_pos (by omega) (ev_pos (by omega) (ev_pos rfl ?_))))
      rw [wrap_succ (n := n) (by omega)]
      exact ih (n + 1) (by omega)
  unfold laws_likeInts.f
  exact ev_pos rfl (main l.length 0 (by omega))
end Go.Proofs.Ytgmciimgmnnhmaa.Pure
end
section
namespace Go.Proofs.Ytgmciimgmnnhmaa.Pure
open Go.RowKit Go.Proofs.Ytgmciimgmnnhmaa.P Go.Proofs.YtgmciimgmnnhmaaW.PrintWords Go.Proofs.YtgmciimgmnnhmaaW.PrintLast Go.Proofs.YtgmciimgmnnhmaaW.PrintMore
set_option linter.unusedVariables false
set_option linter.unusedSimpArgs false
def EvP {β : Type} (A : Nat → Option β) (P : β → Prop) : Prop := ∃ r, Ev A r ∧ P r
theorem evp_now {β : Type} {P : β → Prop} {r : β} (h : P r) : EvP (fun _ => some r) P := ⟨r, Ev.now r, h⟩
theorem evp_mono {β : Type} {A : Nat → Option β} {P Q : β → Prop} (h : EvP A P) (k : ∀ r, P r → Q r) : EvP A Q := by
  obtain ⟨r, e, p⟩ := h; exact ⟨r, e, k r p⟩
theorem evp_bind {α β : Type} {g : Nat → Option α} {f : Nat → α → Option β} {Q : α → Prop} {P : β → Prop} (h : EvP g Q) (k : ∀ a, Q a → EvP (fun n => f n a) P) : EvP (fun n => (g n).bind (f n)) P := by
  obtain ⟨a, e, q⟩ := h
  obtain ⟨r, e2, p⟩ := k a q
  exact ⟨r, Ev.bind e e2, p⟩
theorem evp_ev {α β : Type} {g : Nat → Option α} {f : Nat → α → Option β} {a : α} {P : β → Prop} (h : Ev g a) (k : EvP (fun n => f n a) P) : EvP (fun n => (g n).bind (f n)) P := by
  obtain ⟨r, e2, p⟩ := k
  exact ⟨r, Ev.bind h e2, p⟩
theorem evp_fix {α β : Type} {g : Option α} {f : Nat → α → Option β} {a : α} {P : β → Prop} (h : g = some a) (k : EvP (fun n => f n a) P) : EvP (fun n => g.bind (f n)) P := by subst h; exact k
theorem evp_pos {β : Type} {c : Prop} [Decidable c] {A B : Nat → Option β} {P : β → Prop} (h : c) (k : EvP A P) : EvP (fun n => if c then A n else B n) P := by
  obtain ⟨r, e, p⟩ := k; exact ⟨r, Ev.congr (fun n => if_pos h) e, p⟩
theorem evp_neg {β : Type} {c : Prop} [Decidable c] {A B : Nat → Option β} {P : β → Prop} (h : ¬ c) (k : EvP B P) : EvP (fun n => if c then A n else B n) P := by
  obtain ⟨r, e, p⟩ := k; exact ⟨r, Ev.congr (fun n => if_neg h) e, p⟩
theorem evp_ite {β : Type} {c : Prop} [Decidable c] {A B : Nat → Option β} {P : β → Prop} (h1 : c → EvP A P) (h2 : ¬ c → EvP B P) : EvP (fun n => if c then A n else B n) P := by
  by_cases h : c
  · exact evp_pos h (h1 h)
  · exact evp_neg h (h2 h)
theorem evp_step {β : Type} {g f : Nat → Option β} {P : β → Prop} (h : ∀ k, g (k + 1) = f k) (k : EvP f P) : EvP g P := by
  obtain ⟨r, e, p⟩ := k; exact ⟨r, Ev.step h e, p⟩
theorem evp_true {A : Nat → Option Bool} (h : EvP A (fun r => r = true)) : Ev A true := by
  obtain ⟨r, e, p⟩ := h; subst p; exact e
theorem evp_of {β : Type} {A : Nat → Option β} {P : β → Prop} {r : β} (h : Ev A r) (p : P r) : EvP A P := ⟨r, h, p⟩
end Go.Proofs.Ytgmciimgmnnhmaa.Pure
end
section
namespace Go.Proofs.Ytgmciimgmnnhmaa.Pure
open Go.RowKit Go.Proofs.Ytgmciimgmnnhmaa.P Go.Proofs.YtgmciimgmnnhmaaW.PrintWords Go.Proofs.YtgmciimgmnnhmaaW.PrintLast Go.Proofs.YtgmciimgmnnhmaaW.PrintMore
set_option linter.unusedVariables false
set_option linter.unusedSimpArgs false
def Bytes (b : List Int) : Prop := (∀ x ∈ b, 0 ≤ x ∧ x ≤ 255) ∧ b.length ≤ 4096
def Ok (b : List Int) (i : Int) : Prop := 0 ≤ i ∧ i ≤ (b.length : Int)
theorem bits_bound (x : Int) : 0 ≤ Go.bits .and .u64 x 16777215 ∧ Go.bits .and .u64 x 16777215 ≤ 16777215 := by
  have h : (BitVec.ofInt 64 x &&& BitVec.ofInt 64 16777215).toNat ≤ 16777215 := by
    rw [BitVec.toNat_and]
    exact Nat.le_trans Nat.and_le_right (by decide)
  show 0 ≤ IntKind.u64.wrap ((BitVec.ofInt 64 x &&& BitVec.ofInt 64 16777215).toNat : Int) ∧ IntKind.u64.wrap ((BitVec.ofInt 64 x &&& BitVec.ofInt 64 16777215).toNat : Int) ≤ 16777215
  generalize (BitVec.ofInt 64 x &&& BitVec.ofInt 64 16777215).toNat = n at h
  have e : IntKind.u64.wrap (n : Int) = (n : Int) := by
    show (n : Int) % 18446744073709551616 = (n : Int)
    omega
  rw [e]
  omega
theorem next_f {b : List Int} (hb : Bytes b) {i : Int} (hi : Ok b i) (h n : Int) :
    ∃ v i2 h2, spec_l01Next.f b i h n = some (v, i2, h2) ∧ 0 ≤ v ∧ (1 ≤ n → v < n) ∧ (n < 1 → v = 0) ∧ Ok b i2 := by
  unfold spec_l01Next.f
  by_cases c : n < 1
  · rw [if_pos c]; exact ⟨_, _, _, rfl, by omega, fun _ => by omega, fun _ => rfl, hi⟩
  rw [if_neg c]
  have hy := bits_bound (IntKind.u64.wrap ((IntKind.u64.wrap (h * 6364136223846793005)) + 1442695040888963407) / 8589934592)
  generalize Go.bits .and .u64 (IntKind.u64.wrap ((IntKind.u64.wrap (h * 6364136223846793005)) + 1442695040888963407) / 8589934592) 16777215 = y at hy ⊢
  rw [wrap_id (x := y) (by omega) (by omega)]
  have hl := hb.2
  obtain ⟨h0, h1⟩ := hi
  by_cases d : i < (b.length : Int)
  · have hx := hb.1 _ (rd_mem (l := b) (i := i) h0 d)
    rw [if_pos d, if_pos h0, if_neg (by omega), wrap_id (x := rd b i) (by omega) (by omega), wrap_id (x := y + rd b i) (by omega) (by omega), wrap_id (x := i + 1) (by omega) (by omega)]
    exact ⟨_, _, _, rfl, Int.tmod_nonneg _ (by omega), fun _ => Int.tmod_lt_of_pos _ (by omega), fun h => absurd h c, by constructor <;> omega⟩
  · rw [if_neg d, if_neg (by omega)]
    exact ⟨_, _, _, rfl, Int.tmod_nonneg _ (by omega), fun _ => Int.tmod_lt_of_pos _ (by omega), fun h => absurd h c, ⟨h0, h1⟩⟩
theorem evp_next {β : Type} {b : List Int} (hb : Bytes b) {i : Int} (hi : Ok b i) {h n : Int} {f : Nat → Int × Int × Int → Option β} {P : β → Prop}
    (k : ∀ v i2 h2, 0 ≤ v → (1 ≤ n → v < n) → (n < 1 → v = 0) → Ok b i2 → EvP (fun m => f m (v, i2, h2)) P) : EvP (fun m => (spec_l01Next.f b i h n).bind (f m)) P := by
  obtain ⟨v, i2, h2, e, h1, h3, h4, h5⟩ := next_f hb hi h n
  exact evp_fix e (k v i2 h2 h1 h3 h4 h5)
end Go.Proofs.Ytgmciimgmnnhmaa.Pure
end
