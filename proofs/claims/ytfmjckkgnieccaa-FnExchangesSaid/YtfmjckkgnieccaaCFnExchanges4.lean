/- Exchanges go back, best exchanges give less squares, smooth turns have no more squares and no better exchange, and spreads are told by waits. -/
import Derived.Test.YtfmjckkgnieccaaCFnExchanges3
section
namespace Go.Proofs.Ytfmjckkgnieccaa.P
open Go.RowKit Go.Proofs.YtfmjckkgnieccaaW.PrintWords Go.Proofs.YtfmjckkgnieccaaW.PrintLast Go.Proofs.YtfmjckkgnieccaaW.PrintMore
attribute [local go_sem] max2_int min2_int max_two min_two max_three min_three max_four min_four   -- for this text's walks alone
set_option linter.unusedVariables false
set_option linter.unusedSimpArgs false
set_option maxHeartbeats 8000000 in
set_option maxRecDepth 100000 in
theorem spec_l07Draw.calls (k : Nat) (g : Nat) (s0_0 : List Int) (s0_1 : Int) (s0_2 : Int) (a1 : Int) (r1 : List Int) (r2 : Int) (r3 : Int) (w0 w : World) (hI : IsS60 w0 w g s0_0 s0_1 s0_2) (hB : Below w0.heap.size w0 w) (h : spec_l07Draw.f k s0_0 s0_1 s0_2 a1 = some (r1, r2, r3)) :
    Calls Try.prog 25 #[.pointer (some ⟨g, 0, none⟩), .int .i64 a1] w fun e w' => ∃ v0_ : Value, e = .returned (v0_) ∧ Kd.R (Kd.int .i64) 2 w' w.heap.size (fun _ => True) v0_ r1 ∧ IsS60 w0 w' g s0_0 r2 r3 ∧ Below w0.heap.size w0 w' ∧ KeepBut w w' g none := by
 have HI0 := Aside0.mk hI
 have HK := Aside0.mk (KeepBut.refl w g none)
 have HL := Aside0.mk hB.size
 clear hI
 have HW0 := Aside0.mk hB.size
 have HB := Aside0.mk hB
 clear hB
 have H : ((spec_l07DrawShares.f k s0_0 s0_1 s0_2 a1).bind fun bt101 => ((spec_l01Next.f s0_0 bt101.2.1 bt101.2.2 4).bind fun bt109 => (if bt109.1 = 0 then ((spec_GreedyTurns.f k bt101.1).bind fun bt112 => (spec_l07Draw.j2 k bt112.1 s0_0 bt109.2.1 bt109.2.2)) else (if bt109.1 = 1 then ((spec_LeastDifference.f k bt101.1).bind fun bt116 => (spec_l07Draw.j2 k bt116.1 s0_0 bt109.2.1 bt109.2.2)) else (if bt109.1 = 2 then ((spec_l01Next.f s0_0 bt109.2.1 bt109.2.2 4).bind fun bt121 => ((spec_l07Doubled.f k (wrap64 (1 + bt121.1))).bind fun t124 => (spec_l07Draw.j2 k t124 s0_0 bt121.2.1 bt121.2.2))) else (spec_l07Draw.l0 k bt101.1 (([] : List Int)) (bt101.1.length : Int) 0 s0_0 bt109.2.1 bt109.2.2)))))) = some (r1, r2, r3) := h
 clear h
 replace H := Option.bind_eq_some_iff.mp H
 obtain ⟨⟨t101, t104, t105⟩, A30, H⟩ := H
 replace H : ((spec_l01Next.f s0_0 t104 t105 4).bind fun bt109 => (if bt109.1 = 0 then ((spec_GreedyTurns.f k t101).bind fun bt112 => (spec_l07Draw.j2 k bt112.1 s0_0 bt109.2.1 bt109.2.2)) else (if bt109.1 = 1 then ((spec_LeastDifference.f k t101).bind fun bt116 => (spec_l07Draw.j2 k bt116.1 s0_0 bt109.2.1 bt109.2.2)) else (if bt109.1 = 2 then ((spec_l01Next.f s0_0 bt109.2.1 bt109.2.2 4).bind fun bt121 => ((spec_l07Doubled.f k (wrap64 (1 + bt121.1))).bind fun t124 => (spec_l07Draw.j2 k t124 s0_0 bt121.2.1 bt121.2.2))) else (spec_l07Draw.l0 k t101 (([] : List Int)) (t101.length : Int) 0 s0_0 bt109.2.1 bt109.2.2))))) = some (r1, r2, r3) := H
 have A3 := Aside0.mk A30
 clear A30
 obtain ⟨y106, hy106⟩ : ∃ y_ : List Int, y_ = (([] : List Int)) := ⟨_, rfl⟩
 replace H : ((spec_l01Next.f s0_0 t104 t105 4).bind fun bt109 => (if bt109.1 = 0 then ((spec_GreedyTurns.f k t101).bind fun bt112 => (spec_l07Draw.j2 k bt112.1 s0_0 bt109.2.1 bt109.2.2)) else (if bt109.1 = 1 then ((spec_LeastDifference.f k t101).bind fun bt116 => (spec_l07Draw.j2 k bt116.1 s0_0 bt109.2.1 bt109.2.2)) else (if bt109.1 = 2 then ((spec_l01Next.f s0_0 bt109.2.1 bt109.2.2 4).bind fun bt121 => ((spec_l07Doubled.f k (wrap64 (1 + bt121.1))).bind fun t124 => (spec_l07Draw.j2 k t124 s0_0 bt121.2.1 bt121.2.2))) else (spec_l07Draw.l0 k t101 y106 (t101.length : Int) 0 s0_0 bt109.2.1 bt109.2.2))))) = some (r1, r2, r3) := zH hy106
 have Ny106 := Aside0.mk hy106
 clear hy106
 replace H := Option.bind_eq_some_iff.mp H
 obtain ⟨⟨t109, t110, t111⟩, A40, H⟩ := H
 replace H : (if t109 = 0 then ((spec_GreedyTurns.f k t101).bind fun bt112 => (spec_l07Draw.j2 k bt112.1 s0_0 t110 t111)) else (if t109 = 1 then ((spec_LeastDifference.f k t101).bind fun bt116 => (spec_l07Draw.j2 k bt116.1 s0_0 t110 t111)) else (if t109 = 2 then ((spec_l01Next.f s0_0 t110 t111 4).bind fun bt121 => ((spec_l07Doubled.f k (wrap64 (1 + bt121.1))).bind fun t124 => (spec_l07Draw.j2 k t124 s0_0 bt121.2.1 bt121.2.2))) else (spec_l07Draw.l0 k t101 y106 (t101.length : Int) 0 s0_0 t110 t111)))) = some (r1, r2, r3) := H
 have A4 := Aside0.mk A40
 clear A40
 have HC5 := Aside0.mk H
 clear H
 go_enter Try.func25, Try.ntmps25
 go_upto_block 0 with (first | ((with_reducible refine gate_callee (f := 54) rfl ?_); refine goesL_ (some 12) rfl rfl Try.func54 zk rfl #[.pointer (some ⟨g, 0, none⟩), .int .i64 a1] rfl zA ?_; (with_reducible refine (spec_l07DrawShares.calls k g s0_0 s0_1 s0_2 a1 t101 t104 t105 w0 _ ?side1 ?side2 A3.out).mono ?_); (case side1 => exact zI); (case side2 => exact zB); rintro e w6 ⟨v102, rfl, ho0, hi, hb, hk⟩; refine ⟨_, rfl, ?_⟩; have n_ := y4 (Kd.R_lower ho0 (keep_size (w := w) (g := g) (row := none) (zK))) (KeepBut.trans (zK) hk (.inl rfl)) (hb) (hi); clear HK HB HI0; obtain ⟨HO103, HK, HB, HI0⟩ := n_; (try clear hb); (try clear hb2); (try clear hk); (try clear hi); (try clear ho0)) | ((with_reducible refine gate_dst (N := 13) rfl ?_); refine Kd.R_lit (Kd.int .i64) _ 2 ?hg (N := 13) ?hd (xs := ([] : List Int)) (inner := []) (ok := fun _ => True) (okp := fun _ => True) ?hr ?hp (fun _ hk => hk) trivial (Below.refl _ _) (Nat.le_refl _) (by simp) ?_; (case hd => rfl); (case hg => rfl); (case hr => first | (go_simp; done) | (go_simp; rfl)); (case hp => exact (Reps.none _ _)); intro v107 w7 ho8 hb hg_ hnew_; clear hg_ hnew_; (first | rw [← Ny106.out] at ho8 | (simp only [Int.reduceToNat] at ho8; rw [← Ny106.out] at ho8)); have n_ := y5 (Kd.R_elder' (zR HO103.out) (Kd.R_base ho8) hb) (Kd.R_lower (Kd.R_new' ho8 (Kd.R_lt (zR HO103.out))) (keep_size (w := w) (g := g) (row := none) (zK))) (IsS60.below (zI) hb) (KeepBut.trans (zK) (KeepBut.of_below hb g none) (.inl rfl)) (below_step (zB) hb); clear HO103 HI0 HK HB; obtain ⟨HO103, HO108, HI0, HK, HB⟩ := n_; clear hb ho8) | ((with_reducible refine gate_callee (f := 55) rfl ?_); refine goesL_ (some 15) rfl rfl Try.func55 zk rfl #[.pointer (some ⟨g, 0, none⟩), .int .i64 4] rfl zA ?_; (with_reducible refine (spec_l01Next.calls g s0_0 t104 t105 4 t109 t110 t111 w0 _ ?side1 ?side2 A4.out).mono ?_); (case side1 => exact zI); (case side2 => exact zB); rintro e w9 ⟨rfl, hi, hb, hk⟩; refine ⟨_, rfl, ?_⟩; have n_ := y5 (Kd.R_mono (Kd.R_keep (IsS60.apart (show IsS60 w0 _ g s0_0 t104 t105 from zI) (zR HO103.out) (by decide)) hk (fun _ h => h.2)) (fun _ h => h.1)) (Kd.R_mono (Kd.R_keep (IsS60.apart (show IsS60 w0 _ g s0_0 t104 t105 from zI) (zR HO108.out) (by decide)) hk (fun _ h => h.2)) (fun _ h => h.1)) (KeepBut.trans (zK) hk (.inl rfl)) (hb) (hi); clear HO103 HO108 HK HB HI0; obtain ⟨HO103, HO108, HK, HB, HI0⟩ := n_; (try clear hb); (try clear hb2); (try clear hk); (try clear hi)))
 (try simp only [Act.put, List.setIfInBounds_toArray, List.set_cons_zero, List.set_cons_succ])
 go_cut [6] (fun v6 wc => ∃ (kq : Nat) (x6_4 : List Int) (x1001_4 : Int) (x1002_4 : Int), Aside0 (spec_l07Draw.j2 kq x6_4 s0_0 x1001_4 x1002_4 = some (r1, r2, r3)) ∧ Aside0 (kq ≤ k) ∧ Aside0 (Kd.R (Kd.int .i64) 2 wc w.heap.size (fun _ => True) v6 x6_4) ∧ Aside0 (IsS60 w0 wc g s0_0 x1001_4 x1002_4) ∧ Aside0 (KeepBut w wc g none) ∧ Aside0 (Below w0.heap.size w0 wc))
 case first =>
  have H := HC5.out
  clear HC5
  by_cases c10 : t109 = 0
  ·
   rw [if_pos c10] at H
   have c10b0 : (t109 == 0) = true := beq_iff_eq.mpr c10
   have c10b1 : (t109 != 0) = false := bne_eq_false_iff_eq.mpr c10
   clear c10
   (first | rw [c10b0] | (simp only [i64_w, i32_w]; rw [c10b0]) | skip)
   replace H := Option.bind_eq_some_iff.mp H
   obtain ⟨⟨t112, t113⟩, A110, H⟩ := H
   replace H : (spec_l07Draw.j2 k t112 s0_0 t110 t111) = some (r1, r2, r3) := H
   have A11 := Aside0.mk A110
   clear A110
   have H' := Aside0.mk H
   clear H
   obtain ⟨Ao12, co12, eo12⟩ := Kd.R_slice HO103.out
   subst eo12
   go_wp2_with (first | ((with_reducible refine gate_callee (f := 56) rfl ?_); refine goesL_ (some 50) rfl rfl Try.func56 zk rfl #[.slice Ao12 t101.length co12] rfl zA ?_; (with_reducible refine (spec_GreedyTurns.calls k _ _ t101 t112 t113 _ ?side1 ?side2 A11.out).mono ?_); (case side1 => exact zC (Kd.R_reads' HO103.out).2.2); (case side2 => exact (Kd.R_reads' HO103.out).2.1); rintro e w13 ⟨v114, rfl, ho0, hb⟩; refine ⟨_, rfl, ?_⟩; have n_ := y6 (Kd.R_elder' (zR HO103.out) (Kd.R_base ho0) hb) (Kd.R_elder' (zR HO108.out) (Kd.R_base ho0) hb) (Kd.R_lower (Kd.R_new' (Kd.R_new' ho0 (Kd.R_lt (zR HO103.out))) (Kd.R_lt (zR HO108.out))) (keep_size (w := w) (g := g) (row := none) (zK))) (IsS60.below (zI) hb) (KeepBut.trans (zK) (KeepBut.of_below hb g none) (.inl rfl)) (below_step (zB) hb); clear HO103 HO108 HI0 HK HB; obtain ⟨HO103, HO108, HO115, HI0, HK, HB⟩ := n_; (try clear hb); (try clear hb2); (try clear hk); (try clear hi); (try clear ho0)))
   go_meet
   case rel => exact ⟨_, (t112), (t110), (t111), H', ⟨by first | omega | exact Nat.le_refl _⟩, ⟨by refine zR ?_; exact Kd.R_mono HO115.out (fun _ hk => trivial)⟩, ⟨zI⟩, ⟨zK⟩, ⟨zB⟩⟩
  rw [if_neg c10] at H
  have c10b0 : (t109 == 0) = false := beq_eq_false_iff_ne.mpr c10
  have c10b1 : (t109 != 0) = true := bne_iff_ne.mpr c10
  (first | rw [c10b0] | (simp only [i64_w, i32_w]; rw [c10b0]) | skip)
  by_cases c14 : t109 = 1
  ·
   rw [if_pos c14] at H
   have c14b0 : (t109 == 1) = true := beq_iff_eq.mpr c14
   have c14b1 : (t109 != 1) = false := bne_eq_false_iff_eq.mpr c14
   clear c14
   replace H := Option.bind_eq_some_iff.mp H
   obtain ⟨⟨t116, t117, t118⟩, A150, H⟩ := H
   replace H : (spec_l07Draw.j2 k t116 s0_0 t110 t111) = some (r1, r2, r3) := H
   have A15 := Aside0.mk A150
   clear A150
   have H' := Aside0.mk H
   clear H
   obtain ⟨Ao16, co16, eo16⟩ := Kd.R_slice HO103.out
   subst eo16
   go_wp2_with (first | ((with_reducible refine gate_callee (f := 57) rfl ?_); refine goesL_ (some 57) rfl rfl Try.func57 zk rfl #[.slice Ao16 t101.length co16] rfl zA ?_; (with_reducible refine (spec_LeastDifference.calls k _ _ t101 t116 t117 t118 _ ?side1 ?side2 A15.out).mono ?_); (case side1 => exact zC (Kd.R_reads' HO103.out).2.2); (case side2 => exact (Kd.R_reads' HO103.out).2.1); rintro e w17 ⟨v119, rfl, ho0, hb⟩; refine ⟨_, rfl, ?_⟩; have n_ := y6 (Kd.R_elder' (zR HO103.out) (Kd.R_base ho0) hb) (Kd.R_elder' (zR HO108.out) (Kd.R_base ho0) hb) (Kd.R_lower (Kd.R_new' (Kd.R_new' ho0 (Kd.R_lt (zR HO103.out))) (Kd.R_lt (zR HO108.out))) (keep_size (w := w) (g := g) (row := none) (zK))) (IsS60.below (zI) hb) (KeepBut.trans (zK) (KeepBut.of_below hb g none) (.inl rfl)) (below_step (zB) hb); clear HO103 HO108 HI0 HK HB; obtain ⟨HO103, HO108, HO120, HI0, HK, HB⟩ := n_; (try clear hb); (try clear hb2); (try clear hk); (try clear hi); (try clear ho0)))
   go_meet
   case rel => exact ⟨_, (t116), (t110), (t111), H', ⟨by first | omega | exact Nat.le_refl _⟩, ⟨by refine zR ?_; exact Kd.R_mono HO120.out (fun _ hk => trivial)⟩, ⟨zI⟩, ⟨zK⟩, ⟨zB⟩⟩
  rw [if_neg c14] at H
  have c14b0 : (t109 == 1) = false := beq_eq_false_iff_ne.mpr c14
  have c14b1 : (t109 != 1) = true := bne_iff_ne.mpr c14
  by_cases c18 : t109 = 2
  ·
   rw [if_pos c18] at H
   have c18b0 : (t109 == 2) = true := beq_iff_eq.mpr c18
   have c18b1 : (t109 != 2) = false := bne_eq_false_iff_eq.mpr c18
   clear c18
   replace H := Option.bind_eq_some_iff.mp H
   obtain ⟨⟨t121, t122, t123⟩, A190, H⟩ := H
   replace H : ((spec_l07Doubled.f k (wrap64 (1 + t121))).bind fun t124 => (spec_l07Draw.j2 k t124 s0_0 t122 t123)) = some (r1, r2, r3) := H
   have A19 := Aside0.mk A190
   clear A190
   replace H := Option.bind_eq_some_iff.mp H
   obtain ⟨t124, A200, H⟩ := H
   replace H : (spec_l07Draw.j2 k t124 s0_0 t122 t123) = some (r1, r2, r3) := H
   have A20 := Aside0.mk A200
   clear A200
   have H' := Aside0.mk H
   clear H
   go_wp2_with (first | ((with_reducible refine gate_callee (f := 55) rfl ?_); refine goesL_ (some 64) rfl rfl Try.func55 zk rfl #[.pointer (some ⟨g, 0, none⟩), .int .i64 4] rfl zA ?_; (with_reducible refine (spec_l01Next.calls g s0_0 t110 t111 4 t121 t122 t123 w0 _ ?side1 ?side2 A19.out).mono ?_); (case side1 => exact zI); (case side2 => exact zB); rintro e w21 ⟨rfl, hi, hb, hk⟩; refine ⟨_, rfl, ?_⟩; have n_ := y5 (Kd.R_mono (Kd.R_keep (IsS60.apart (show IsS60 w0 _ g s0_0 t110 t111 from zI) (zR HO103.out) (by decide)) hk (fun _ h => h.2)) (fun _ h => h.1)) (Kd.R_mono (Kd.R_keep (IsS60.apart (show IsS60 w0 _ g s0_0 t110 t111 from zI) (zR HO108.out) (by decide)) hk (fun _ h => h.2)) (fun _ h => h.1)) (KeepBut.trans (zK) hk (.inl rfl)) (hb) (hi); clear HO103 HO108 HK HB HI0; obtain ⟨HO103, HO108, HK, HB, HI0⟩ := n_; (try clear hb); (try clear hb2); (try clear hk); (try clear hi)) | ((with_reducible refine gate_callee (f := 58) rfl ?_); refine goesL_ (some 66) rfl rfl Try.func58 zk rfl #[.int .i64 (wrap64 (1 + t121))] rfl zA ?_; (with_reducible refine (spec_l07Doubled.calls k (wrap64 (1 + t121)) t124 _ A20.out).mono ?_); rintro e w22 ⟨v125, rfl, ho0, hb⟩; refine ⟨_, rfl, ?_⟩; have n_ := y6 (Kd.R_elder' (zR HO103.out) (Kd.R_base ho0) hb) (Kd.R_elder' (zR HO108.out) (Kd.R_base ho0) hb) (Kd.R_lower (Kd.R_new' (Kd.R_new' ho0 (Kd.R_lt (zR HO103.out))) (Kd.R_lt (zR HO108.out))) (keep_size (w := w) (g := g) (row := none) (zK))) (IsS60.below (zI) hb) (KeepBut.trans (zK) (KeepBut.of_below hb g none) (.inl rfl)) (below_step (zB) hb); clear HO103 HO108 HI0 HK HB; obtain ⟨HO103, HO108, HO126, HI0, HK, HB⟩ := n_; (try clear hb); (try clear hb2); (try clear hk); (try clear hi); (try clear ho0)))
   go_meet
   case rel => exact ⟨_, (t124), (t122), (t123), H', ⟨by first | omega | exact Nat.le_refl _⟩, ⟨by refine zR ?_; exact Kd.R_mono HO126.out (fun _ hk => trivial)⟩, ⟨zI⟩, ⟨zK⟩, ⟨zB⟩⟩
  rw [if_neg c18] at H
  have c18b0 : (t109 == 2) = false := beq_eq_false_iff_ne.mpr c18
  have c18b1 : (t109 != 2) = true := bne_iff_ne.mpr c18
  have H' := Aside0.mk H
  clear H
  obtain ⟨Ao23, co23, eo23⟩ := Kd.R_slice HO103.out
  subst eo23
  go_wp2
  go_loopg [6, 18] k (fun kq v6 v18 w' => ∃ (x6_1 : List Int) (x18_1 : Int) (x1001_1 : Int) (x1002_1 : Int), v18 = .int .i64 x18_1 ∧ Aside0 (spec_l07Draw.l0 kq t101 x6_1 (t101.length : Int) x18_1 s0_0 x1001_1 x1002_1 = some (r1, r2, r3)) ∧ Aside0 (kq ≤ k) ∧ Aside0 (Kd.R (Kd.int .i64) 2 w' w.heap.size (fun k_ => some k_ ≠ (v6 : Value).ownBlock) (.slice Ao23 t101.length co23) t101) ∧ Aside0 (Kd.R (Kd.int .i64) 2 w' w.heap.size (fun k_ => some k_ ≠ ((.slice Ao23 t101.length co23) : Value).ownBlock) v6 x6_1) ∧ Aside0 (IsS60 w0 w' g s0_0 x1001_1 x1002_1) ∧ Aside0 (KeepBut w w' g none) ∧ Aside0 (Below w0.heap.size w0 w'))
  case atStart => exact ⟨(y106), (0), (t110), (t111), zF, H', ⟨Nat.le_refl _⟩, ⟨by refine zR ?_; exact Kd.R_mono HO103.out (fun _ hk => hk.2)⟩, ⟨by refine zR ?_; exact Kd.R_mono HO108.out (fun _ hk => hk.2)⟩, ⟨zI⟩, ⟨zK⟩, ⟨zB⟩⟩
  clear H'
  try clear c10
  try clear c10b0
  try clear c10b1
  try clear c14
  try clear c14b0
  try clear c14b1
  try clear c18
  try clear c18b0
  try clear c18b1
  obtain ⟨x6_1, x18_1, x1001_1, x1002_1, rfl, HA, HK1, HO_5, HO_6, HI0, HK, HB⟩ := hrel
  cases gk with
  | zero => exact absurd HA.out (by simp [spec_l07Draw.l0])
  | succ k1 =>
    have H := HA.out
    clear HA
    simp only [spec_l07Draw.l0] at H
    by_cases c24 : x18_1 < (t101.length : Int)
    · rw [if_pos c24] at H
      have c24b0 : decide (x18_1 < (t101.length : Int)) = true := decide_eq_true c24
      clear c24
      by_cases c25 : 0 ≤ x18_1
      · rw [if_pos c25] at H
        have c25b0 : decide (0 ≤ x18_1) = true := decide_eq_true c25
        clear c25
        by_cases c26 : x18_1 < (t101.length : Int)
        · rw [if_pos c26] at H
          have c26b0 : decide (x18_1 < (t101.length : Int)) = true := decide_eq_true c26
          clear c26
          have H' := Aside0.mk H
          clear H
          have p127 : 0 ≤ (x18_1 : Int) := zD
          have q127 : x18_1 < (t101.length : Int) := zD
          obtain ⟨ad127, e127, hx127_0⟩ := Kd.at_int (Kd.R_reads' HO_5.out).2.2 x18_1 p127 q127
          cases e127
          replace p127 := eq_true p127
          replace q127 := eq_true q127
          go_wp2
          go_loopg [6, 8] k1 (fun kq v6 v8 w' => ∃ (x6_2 : List Int) (x8_2 : Int) (x1001_2 : Int) (x1002_2 : Int), v8 = .int .i64 x8_2 ∧ Aside0 (spec_l07Draw.l1 kq t101 x6_2 x18_1 x8_2 (t101.length : Int) x18_1 s0_0 x1001_2 x1002_2 = some (r1, r2, r3)) ∧ Aside0 (kq ≤ k1) ∧ Aside0 (Kd.R (Kd.int .i64) 2 w' w.heap.size (fun k_ => some k_ ≠ (v6 : Value).ownBlock) (.slice (some ad127) t101.length co23) t101) ∧ Aside0 (Kd.R (Kd.int .i64) 2 w' w.heap.size (fun k_ => some k_ ≠ ((.slice (some ad127) t101.length co23) : Value).ownBlock) v6 x6_2) ∧ Aside0 (IsS60 w0 w' g s0_0 x1001_2 x1002_2) ∧ Aside0 (KeepBut w w' g none) ∧ Aside0 (Below w0.heap.size w0 w'))
          case atStart => exact ⟨(x6_1), (rd t101 x18_1), (x1001_1), (x1002_1), zF, H', ⟨Nat.le_refl _⟩, ⟨zR HO_5.out⟩, ⟨zR HO_6.out⟩, ⟨zI⟩, ⟨zK⟩, ⟨zB⟩⟩
          case round =>
            clear H'
            try clear c10
            try clear c10b0
            try clear c10b1
            try clear c14
            try clear c14b0
            try clear c14b1
            try clear c18
            try clear c18b0
            try clear c18b1
            try clear c24
            try clear c24b0
            try clear c25
            try clear c25b0
            try clear c26
            try clear c26b0
            try clear hx127_0
            try clear p127
            try clear q127
            obtain ⟨x6_2, x8_2, x1001_2, x1002_2, rfl, HA, HK2, HO_5, HO_6, HI0, HK, HB⟩ := hrel
            cases gk with
            | zero => exact absurd HA.out (by simp [spec_l07Draw.l1])
            | succ k2 =>
              have H := HA.out
              clear HA
              simp only [spec_l07Draw.l1] at H
              by_cases c27 : x8_2 > 0
              · rw [if_pos c27] at H
                have c27b0 : decide (0 < x8_2) = true := decide_eq_true c27
                clear c27
                replace H := Option.bind_eq_some_iff.mp H
                obtain ⟨⟨t128, t129, t130⟩, A280, H⟩ := H
                replace H : (if 0 ≤ t128 then (if t128 ≤ (x6_2.length : Int) then ((spec_l01Own.f (x6_2.take (t128 : Int).toNat)).bind fun t135 => ((some (([x18_1] : List Int) : List Int)).bind fun y138 => (if t135.length + y138.length < 17592186044416 then ((some (t135 ++ y138 : List Int)).bind fun y141 => ((some (x6_2.drop (t128 : Int).toNat : List Int)).bind fun y144 => (if y141.length + y144.length < 17592186044416 then (spec_l07Draw.l1 k2 t101 (y141 ++ y144) x18_1 (wrap64 (x8_2 - 1)) (t101.length : Int) x18_1 s0_0 t129 t130) else (none)))) else (none)))) else (none)) else (none)) = some (r1, r2, r3) := H
                have A28 := Aside0.mk A280
                clear A280
                by_cases c29 : 0 ≤ t128
                · rw [if_pos c29] at H
                  have c29b0 := eq_true c29
                  have c29b1 : decide (0 ≤ t128) = true := decide_eq_true c29
                  clear c29
                  by_cases c30 : t128 ≤ (x6_2.length : Int)
                  · rw [if_pos c30] at H
                    have c30b0 := eq_true c30
                    have c30b1 : decide (t128 ≤ (x6_2.length : Int)) = true := decide_eq_true c30
                    clear c30
                    obtain ⟨y131, hy131⟩ : ∃ y_ : List Int, y_ = (x6_2.take (t128 : Int).toNat) := ⟨_, rfl⟩
                    replace H : ((spec_l01Own.f y131).bind fun t135 => ((some (([x18_1] : List Int) : List Int)).bind fun y138 => (if t135.length + y138.length < 17592186044416 then ((some (t135 ++ y138 : List Int)).bind fun y141 => ((some (x6_2.drop (t128 : Int).toNat : List Int)).bind fun y144 => (if y141.length + y144.length < 17592186044416 then (spec_l07Draw.l1 k2 t101 (y141 ++ y144) x18_1 (wrap64 (x8_2 - 1)) (t101.length : Int) x18_1 s0_0 t129 t130) else (none)))) else (none)))) = some (r1, r2, r3) := zH hy131
                    have Ny131 := Aside0.mk hy131
                    clear hy131
                    replace H := Option.bind_eq_some_iff.mp H
                    obtain ⟨t135, A310, H⟩ := H
                    replace H : ((some (([x18_1] : List Int) : List Int)).bind fun y138 => (if t135.length + y138.length < 17592186044416 then ((some (t135 ++ y138 : List Int)).bind fun y141 => ((some (x6_2.drop (t128 : Int).toNat : List Int)).bind fun y144 => (if y141.length + y144.length < 17592186044416 then (spec_l07Draw.l1 k2 t101 (y141 ++ y144) x18_1 (wrap64 (x8_2 - 1)) (t101.length : Int) x18_1 s0_0 t129 t130) else (none)))) else (none))) = some (r1, r2, r3) := H
                    have A31 := Aside0.mk A310
                    clear A310
                    obtain ⟨y138, hy138⟩ : ∃ y_ : List Int, y_ = (([x18_1] : List Int)) := ⟨_, rfl⟩
                    replace H : (if t135.length + y138.length < 17592186044416 then ((some (t135 ++ y138 : List Int)).bind fun y141 => ((some (x6_2.drop (t128 : Int).toNat : List Int)).bind fun y144 => (if y141.length + y144.length < 17592186044416 then (spec_l07Draw.l1 k2 t101 (y141 ++ y144) x18_1 (wrap64 (x8_2 - 1)) (t101.length : Int) x18_1 s0_0 t129 t130) else (none)))) else (none)) = some (r1, r2, r3) := zH hy138
                    have Ny138 := Aside0.mk hy138
                    clear hy138
                    by_cases c32 : t135.length + y138.length < 17592186044416
                    · rw [if_pos c32] at H
                      have LMc32 := Aside0.mk c32
                      clear c32
                      obtain ⟨y141, hy141⟩ : ∃ y_ : List Int, y_ = (t135 ++ y138) := ⟨_, rfl⟩
                      replace H : ((some (x6_2.drop (t128 : Int).toNat : List Int)).bind fun y144 => (if y141.length + y144.length < 17592186044416 then (spec_l07Draw.l1 k2 t101 (y141 ++ y144) x18_1 (wrap64 (x8_2 - 1)) (t101.length : Int) x18_1 s0_0 t129 t130) else (none))) = some (r1, r2, r3) := zH hy141
                      have Ny141 := Aside0.mk hy141
                      clear hy141
                      have c33b0 := eq_true (zD : 0 ≤ t128)
                      have c34b0 := eq_true (zD : t128 ≤ (x6_2.length : Int))
                      obtain ⟨y144, hy144⟩ : ∃ y_ : List Int, y_ = (x6_2.drop (t128 : Int).toNat) := ⟨_, rfl⟩
                      replace H : (if y141.length + y144.length < 17592186044416 then (spec_l07Draw.l1 k2 t101 (y141 ++ y144) x18_1 (wrap64 (x8_2 - 1)) (t101.length : Int) x18_1 s0_0 t129 t130) else (none)) = some (r1, r2, r3) := zH hy144
                      have Ny144 := Aside0.mk hy144
                      clear hy144
                      by_cases c35 : y141.length + y144.length < 17592186044416
                      · rw [if_pos c35] at H
                        have LMc35 := Aside0.mk c35
                        clear c35
                        obtain ⟨y148, hy148⟩ : ∃ y_ : List Int, y_ = (y141 ++ y144) := ⟨_, rfl⟩
                        replace H : (spec_l07Draw.l1 k2 t101 y148 x18_1 (wrap64 (x8_2 - 1)) (t101.length : Int) x18_1 s0_0 t129 t130) = some (r1, r2, r3) := zH hy148
                        have Ny148 := Aside0.mk hy148
                        clear hy148
                        have H' := Aside0.mk H
                        clear H
                        obtain ⟨Ao36, co36, eo36⟩ := Kd.R_slice HO_6.out
                        subst eo36
                        try go_wp2_with (first | ((with_reducible refine gate_callee (f := 55) rfl ?_); refine goesL_ (some 33) rfl rfl Try.func55 zk rfl #[.pointer (some ⟨g, 0, none⟩), .int .i64 (wrap64 ((x6_2.length : Int) + 1))] rfl zA ?_; (with_reducible refine (spec_l01Next.calls g s0_0 x1001_2 x1002_2 (wrap64 ((x6_2.length : Int) + 1)) t128 t129 t130 w0 _ ?side1 ?side2 A28.out).mono ?_); (case side1 => exact zI); (case side2 => exact zB); rintro e w37 ⟨rfl, hi, hb, hk⟩; refine ⟨_, rfl, ?_⟩; have n_ := y5 (Kd.R_mono (Kd.R_keep (IsS60.apart (show IsS60 w0 _ g s0_0 x1001_2 x1002_2 from zI) (zR HO_5.out) (by decide)) hk (fun _ h => h.2)) (fun _ h => h.1)) (Kd.R_mono (Kd.R_keep (IsS60.apart (show IsS60 w0 _ g s0_0 x1001_2 x1002_2 from zI) (zR HO_6.out) (by decide)) hk (fun _ h => h.2)) (fun _ h => h.1)) (KeepBut.trans (zK) hk (.inl rfl)) (hb) (hi); clear HO_5 HO_6 HK HB HI0; obtain ⟨HO_5, HO_6, HK, HB, HI0⟩ := n_; (try clear hb); (try clear hb2); (try clear hk); (try clear hi)))
                        have n_ := y5 (Kd.R_drew HO_5.out) (Kd.R_drew HO_6.out) (IsS60.drew HI0.out) (keep_drew HK.out) (below_drew1 HB.out)
                        clear HO_5 HO_6 HI0 HK HB
                        obtain ⟨HO_5, HO_6, HI0, HK, HB⟩ := n_
                        have q39 : (t128 : Int) ≤ ((x6_2.length : Int) : Int) := zD
                        obtain ⟨i039, hi039, _, hsz39, _⟩ := info_parts info2
                        have hroom39 : x6_2.length ≤ co36 := (Kd.R_reads' HO_6.out).2.1
                        have hC39 : Kd.C (Kd.int .i64) _ Ao36 x6_2.length x6_2 := (Kd.R_reads' HO_6.out).2.2
                        have hcut39 := cut_to (P := Try.prog) 24 2 .i64 Try.underlying24 hi039 Ao36 x6_2.length co36 t128 (zD) q39 hroom39
                        have hr39 := Kd.C_take (m := (t128 : Int).toNat) hC39 (by omega)
                        have hy39 : y131.length = (t128 : Int).toNat := (by rw [Ny131.out, List.length_take]; omega)
                        rw [← Ny131.out] at hr39
                        rw [← hy39] at hcut39
                        have HR134 := Aside0.mk hr39
                        have HC134 := Aside0.mk (show y131.length ≤ co36 from by omega)
                        clear hr39 hC39 hroom39 hi039 hsz39
                        have KY39 := Aside0.mk hy39
                        clear hy39
                        have KL39 := Aside0.mk (show (t128 : Int).toNat ≤ x6_2.length from by omega)
                        replace q39 := eq_true q39
                        have q40 : (t128 : Int) ≤ ((x6_2.length : Int) : Int) := zD
                        obtain ⟨i040, hi040, _, hsz40, _⟩ := info_parts info2
                        have hroom40 : x6_2.length ≤ co36 := (Kd.R_reads' HO_6.out).2.1
                        have hC40 : Kd.C (Kd.int .i64) _ Ao36 x6_2.length x6_2 := (Kd.R_reads' HO_6.out).2.2
                        have q040 : (0 : Int) ≤ (t128 : Int) := zD
                        have hcut40 := cut_from (P := Try.prog) 24 2 .i64 Try.underlying24 hi040 1 hsz40 Ao36 x6_2.length co36 t128 q040 q40
                        have hr40 := Kd.C_drop (m := (t128 : Int).toNat) (c := co36) hC40 (by omega) hroom40
                        obtain ⟨A40, hA40⟩ : ∃ A1, A1 = (if co36 = (t128 : Int).toNat then Ao36 else (Ao36 : Option Addr).map (·.add ((t128 : Int).toNat * 1))) := ⟨_, rfl⟩
                        obtain ⟨c40, hc40⟩ : ∃ c1, c1 = co36 - (t128 : Int).toNat := ⟨_, rfl⟩
                        have hy40 : y144.length = x6_2.length - (t128 : Int).toNat := (by rw [Ny144.out, List.length_drop] <;> omega)
                        rw [show (x6_2).drop (t128 : Int).toNat = y144 from Ny144.out.symm] at hr40
                        replace hr40 : Kd.C (Kd.int .i64) _ A40 y144.length y144 := (by rw [hA40]; exact hr40)
                        rw [← hy40, ← hA40, ← hc40] at hcut40
                        have HR147 := Aside0.mk hr40
                        have HC147 := Aside0.mk (show y144.length ≤ c40 from by rw [hy40, hc40]; exact Nat.sub_le_sub_right hroom40 _)
                        clear hr40 hC40 hroom40 hi040 hsz40 hc40
                        have KY40 := Aside0.mk hy40
                        have KA40 := Aside0.mk hA40
                        clear hy40 hA40
                        have KL40 := Aside0.mk (show (t128 : Int).toNat ≤ x6_2.length from by omega)
                        replace q40 := eq_true q40
                        refine start_ (n := 12) (S := fun w' => True) (ds := []) #[false,false,false,false,false,false,false,false,false,false,false,false] zk rfl rfl trivial (fun hHeld => ?_); refine with_tabW spec_l07Draw.tab10 spec_l07Draw.bits10 (fun HT_ HW_ => ?_)
                        generalize w37.drew = w38 at HO_5 HO_6 HI0 HK HB HR134 HR147 hHeld ⊢
                        refine pure_ (i := 0) (N := some 34) (v := ?_) (a' := ?_) #[true,false,false,false,false,false,false,false,false,false,false,false] rfl rfl (any_of HT_.out zk) (fun _ _ _ h => h) (Or.inl ⟨by rfl, ?_⟩) ?_ ?_
                        rotate_left; exact zp; rotate_left; exact zq
                        refine pure_ (i := 1) (N := some 35) (v := ?_) (a' := ?_) #[true,true,false,false,false,false,false,false,false,false,false,false] rfl rfl (any_of HT_.out zk) (fun _ _ _ h => h) (Or.inl ⟨by rfl, ?_⟩) ?_ ?_
                        rotate_left; exact zp; rotate_left; exact zq
                        refine pure_ (i := 2) (N := some 36) (v := ?_) (a' := ?_) #[true,true,true,false,false,false,false,false,false,false,false,false] rfl rfl (any_of HT_.out zk) (fun _ _ _ h => h) (Or.inl ⟨by rfl, ?_⟩) ?_ ?_
                        rotate_left; exact zp; rotate_left; exact zq
                        refine pure_ (i := 4) (N := some 38) (v := ?_) (a' := ?_) #[true,true,true,false,true,false,false,false,false,false,false,false] rfl rfl (any_of HT_.out zk) (fun _ _ _ h => h) (Or.inl ⟨by rfl, ?_⟩) ?_ ?_
                        rotate_left; exact zp; rotate_left; exact zq
                        refine pure_ (i := 7) (N := some 41) (v := ?_) (a' := ?_) #[true,true,true,false,true,false,false,true,false,false,false,false] rfl rfl (any_of HT_.out zk) (fun _ _ _ h => h) (Or.inl ⟨by rfl, ?_⟩) ?_ ?_
                        rotate_left; exact zp; rotate_left; exact zq
                        refine pure_ (i := 8) (N := some 42) (v := ?_) (a' := ?_) #[true,true,true,false,true,false,false,true,true,false,false,false] rfl rfl (any_of HT_.out zk) (fun _ _ _ h => h) (Or.inl ⟨by rfl, ?_⟩) ?_ ?_
                        rotate_left; exact zp; rotate_left; exact zq
                        refine pure_ (i := 9) (N := some 43) (v := ?_) (a' := ?_) #[true,true,true,false,true,false,false,true,true,true,false,false] rfl rfl (any_of HT_.out zk) (fun _ _ _ h => h) (Or.inl ⟨by rfl, ?_⟩) ?_ ?_
                        rotate_left; exact zp; rotate_left; exact zq
                        refine join_ (σ := Value × Value) 3 #[true,true,true,true,true,true,false,true,true,true,false,false] (fun s_ => [(37, s_.1), (39, s_.2)]) (fun s_ w' => (Kd.R (Kd.int .i64) 2 w' w.heap.size (fun k_ => some k_ ≠ (s_.2 : Value).ownBlock ∧ some k_ ≠ (.slice (some ad127) t101.length co23 : Value).ownBlock ∧ some k_ ≠ (.slice Ao36 x6_2.length co36 : Value).ownBlock) s_.1 t135) ∧ (Kd.R (Kd.int .i64) 2 w' w.heap.size (fun k_ => some k_ ≠ (s_.1 : Value).ownBlock ∧ some k_ ≠ (.slice (some ad127) t101.length co23 : Value).ownBlock ∧ some k_ ≠ (.slice Ao36 x6_2.length co36 : Value).ownBlock) s_.2 y138) ∧ (Kd.R (Kd.int .i64) 2 w' w.heap.size (fun k_ => some k_ ≠ (s_.1 : Value).ownBlock ∧ some k_ ≠ (s_.2 : Value).ownBlock ∧ some k_ ≠ (.slice Ao36 x6_2.length co36 : Value).ownBlock) (.slice (some ad127) t101.length co23) t101) ∧ (Kd.R (Kd.int .i64) 2 w' w.heap.size (fun k_ => some k_ ≠ (s_.1 : Value).ownBlock ∧ some k_ ≠ (s_.2 : Value).ownBlock ∧ some k_ ≠ (.slice (some ad127) t101.length co23 : Value).ownBlock) (.slice Ao36 x6_2.length co36) x6_2) ∧ (IsS60 w0 w' g s0_0 t129 t130) ∧ (KeepBut w w' g none) ∧ (Below w0.heap.size w0 w')) ?_ ?_
                        rotate_left
                        · intro hCont
                          refine two_ (i := 3) (j := 5) (Ni := some 37) (Nj := some 39) #[true,true,true,true,true,false,false,true,true,true,false,false] #[true,true,true,false,true,true,false,true,true,true,false,false] rfl rfl rfl rfl (two_of HT_.out zk) (by decide) (by decide) (fun K hK => ?_) (fun K hK => ?_)
                          · skip
                            refine goes_ Try.func32 zk rfl #[.slice Ao36 y131.length co36] (by rfl) rfl rfl zA ?_
                            with_reducible refine (spec_l01Own.calls _ _ y131 t135 _ ?side1 ?side2 A31.out).mono ?_
                            (case side1 => repeat (first | exact (by repeat (first | (with_reducible exact HR134.out) | (with_reducible refine Kd.C_alloc ?_ _) | (with_reducible refine Kd.C_drewN ?_ _) | (with_reducible refine Kd.C_drew ?_) | exact HR134.out)) | (with_reducible refine Kd.C_alloc ?_ _) | (with_reducible refine Kd.C_drewN ?_ _) | (with_reducible refine Kd.C_drew ?_)))
                            (case side2 => exact HC134.out)
                            rintro e w41 ⟨v136, rfl, ho0, hb⟩
                            refine ⟨_, rfl, ?_⟩
                            have n_ := y8 (Kd.R_elder' (zR HO_5.out) (Kd.R_base ho0) hb) (Kd.R_elder' (zR HO_6.out) (Kd.R_base ho0) hb) (Kd.R_lower (Kd.R_new' (Kd.R_new' ho0 (Kd.R_lt (zR HO_5.out))) (Kd.R_lt (zR HO_6.out))) (keep_size (w := w) (g := g) (row := none) (zK))) (IsS60.below (zI) hb) (Kd.C_below (by repeat (first | (with_reducible exact HR134.out) | (with_reducible refine Kd.C_alloc ?_ _) | (with_reducible refine Kd.C_drewN ?_ _) | (with_reducible refine Kd.C_drew ?_) | exact HR134.out)) hb) (Kd.C_below (by repeat (first | (with_reducible exact HR147.out) | (with_reducible refine Kd.C_alloc ?_ _) | (with_reducible refine Kd.C_drewN ?_ _) | (with_reducible refine Kd.C_drew ?_) | exact HR147.out)) hb) (KeepBut.trans (zK) (KeepBut.of_below hb g none) (.inl rfl)) (below_step (zB) hb)
                            clear HO_5 HO_6 HI0 HR134 HR147 HK HB
                            obtain ⟨HO_5, HO_6, HO137, HI0, HR134, HR147, HK, HB⟩ := n_
                            (try clear hb)
                            (try clear hb2)
                            (try clear hk)
                            (try clear hi)
                            (try clear ho0)
                            refine hK.out _ _ trivial (fun hHeld => ?_)
                            clear hK K
                            refine norm_ (a' := ?_) ?_ ?_
                            rotate_left
                            · show Act.put _ (some 37) _ = _
                              simp only [Act.put, List.setIfInBounds_toArray, List.set_cons_zero, List.set_cons_succ, i64_w, i32_w]
                              rfl
                            refine one_ (i := 5) (N := some 39) #[true,true,true,true,true,true,false,true,true,true,false,false] rfl rfl (one_of HT_.out zk) (by decide) (fun K hK => ?_)
                            refine Kd.R_lit_step (Kd.int .i64) _ 2 ?hg (N := 39) ?hd (xs := ([x18_1] : List Int)) (inner := [.int .i64 x18_1]) (ok := fun _ => True) (okp := fun _ => True) ?hr ?hp (fun _ hk => hk) trivial (Below.refl _ _) (Nat.le_refl _) (by simp) ?_; (case hd => rfl); (case hg => rfl); (case hr => first | (go_simp; done) | (go_simp; rfl)); (case hp => exact (Reps.one (show Kd.M (Kd.int .i64) _ _ _ x18_1 [.int .i64 x18_1] from rfl) (Reps.none _ _)))
                            intro v139 w42 ho43 hb hg_ hnew_
                            clear hg_ hnew_
                            (first | rw [← Ny138.out] at ho43 | (simp only [Int.reduceToNat] at ho43; rw [← Ny138.out] at ho43))
                            have n_ := y9 (Kd.R_elder' (zR HO_5.out) (Kd.R_base ho43) hb) (Kd.R_elder' (zR HO_6.out) (Kd.R_base ho43) hb) (Kd.R_elder' (zR HO137.out) (Kd.R_base ho43) hb) (Kd.R_lower (Kd.R_new' (Kd.R_new' (Kd.R_new' ho43 (Kd.R_lt (zR HO_5.out))) (Kd.R_lt (zR HO_6.out))) (Kd.R_lt (zR HO137.out))) (keep_size (w := w) (g := g) (row := none) (zK))) (IsS60.below (zI) hb) (Kd.C_below (by repeat (first | (with_reducible exact HR134.out) | (with_reducible refine Kd.C_alloc ?_ _) | (with_reducible refine Kd.C_drewN ?_ _) | (with_reducible refine Kd.C_drew ?_) | exact HR134.out)) hb) (Kd.C_below (by repeat (first | (with_reducible exact HR147.out) | (with_reducible refine Kd.C_alloc ?_ _) | (with_reducible refine Kd.C_drewN ?_ _) | (with_reducible refine Kd.C_drew ?_) | exact HR147.out)) hb) (KeepBut.trans (zK) (KeepBut.of_below hb g none) (.inl rfl)) (below_step (zB) hb)
                            clear HO_5 HO_6 HO137 HI0 HR134 HR147 HK HB
                            obtain ⟨HO_5, HO_6, HO137, HO140, HI0, HR134, HR147, HK, HB⟩ := n_
                            clear hb ho43
                            refine hK.out _ _ trivial (fun hHeld => ?_)
                            clear hK K
                            refine norm_ (a' := ?_) ?_ ?_
                            rotate_left
                            · show Act.put _ (some 39) _ = _
                              simp only [Act.put, List.setIfInBounds_toArray, List.set_cons_zero, List.set_cons_succ, i64_w, i32_w]
                              rfl
                            exact norm_ (by simp only [putAll, Act.put, List.setIfInBounds_toArray, List.set_cons_zero, List.set_cons_succ]) (hCont (v136, v139) _ ⟨(by refine zR ?_; exact Kd.R_mono HO137.out (fun _ hk => ⟨hk.2, ⟨hk.1.1.2, hk.1.2⟩⟩)), (by refine zR ?_; exact Kd.R_mono HO140.out (fun _ hk => ⟨hk.2, ⟨hk.1.1.2, hk.1.2⟩⟩)), (by refine zR ?_; exact Kd.R_mono HO_5.out (fun _ hk => ⟨hk.1.2, ⟨hk.2, hk.1.1⟩⟩)), (by refine zR ?_; exact Kd.R_mono HO_6.out (fun _ hk => ⟨hk.1.2, ⟨hk.2, hk.1.1⟩⟩)), (zI), (zK), (zB)⟩)
                          · skip
                            refine Kd.R_lit_step (Kd.int .i64) _ 2 ?hg (N := 39) ?hd (xs := ([x18_1] : List Int)) (inner := [.int .i64 x18_1]) (ok := fun _ => True) (okp := fun _ => True) ?hr ?hp (fun _ hk => hk) trivial (Below.refl _ _) (Nat.le_refl _) (by simp) ?_; (case hd => rfl); (case hg => rfl); (case hr => first | (go_simp; done) | (go_simp; rfl)); (case hp => exact (Reps.one (show Kd.M (Kd.int .i64) _ _ _ x18_1 [.int .i64 x18_1] from rfl) (Reps.none _ _)))
                            intro v139 w41 ho42 hb hg_ hnew_
                            clear hg_ hnew_
                            (first | rw [← Ny138.out] at ho42 | (simp only [Int.reduceToNat] at ho42; rw [← Ny138.out] at ho42))
                            have n_ := y8 (Kd.R_elder' (zR HO_5.out) (Kd.R_base ho42) hb) (Kd.R_elder' (zR HO_6.out) (Kd.R_base ho42) hb) (Kd.R_lower (Kd.R_new' (Kd.R_new' ho42 (Kd.R_lt (zR HO_5.out))) (Kd.R_lt (zR HO_6.out))) (keep_size (w := w) (g := g) (row := none) (zK))) (IsS60.below (zI) hb) (Kd.C_below (by repeat (first | (with_reducible exact HR134.out) | (with_reducible refine Kd.C_alloc ?_ _) | (with_reducible refine Kd.C_drewN ?_ _) | (with_reducible refine Kd.C_drew ?_) | exact HR134.out)) hb) (Kd.C_below (by repeat (first | (with_reducible exact HR147.out) | (with_reducible refine Kd.C_alloc ?_ _) | (with_reducible refine Kd.C_drewN ?_ _) | (with_reducible refine Kd.C_drew ?_) | exact HR147.out)) hb) (KeepBut.trans (zK) (KeepBut.of_below hb g none) (.inl rfl)) (below_step (zB) hb)
                            clear HO_5 HO_6 HI0 HR134 HR147 HK HB
                            obtain ⟨HO_5, HO_6, HO140, HI0, HR134, HR147, HK, HB⟩ := n_
                            clear hb ho42
                            refine hK.out _ _ trivial (fun hHeld => ?_)
                            clear hK K
                            refine norm_ (a' := ?_) ?_ ?_
                            rotate_left
                            · show Act.put _ (some 39) _ = _
                              simp only [Act.put, List.setIfInBounds_toArray, List.set_cons_zero, List.set_cons_succ, i64_w, i32_w]
                              rfl
                            refine one_ (i := 3) (N := some 37) #[true,true,true,true,true,true,false,true,true,true,false,false] rfl rfl (one_of HT_.out zk) (by decide) (fun K hK => ?_)
                            refine goes_ Try.func32 zk rfl #[.slice Ao36 y131.length co36] (by rfl) rfl rfl zA ?_
                            with_reducible refine (spec_l01Own.calls _ _ y131 t135 _ ?side1 ?side2 A31.out).mono ?_
                            (case side1 => repeat (first | exact (by repeat (first | (with_reducible exact HR134.out) | (with_reducible refine Kd.C_alloc ?_ _) | (with_reducible refine Kd.C_drewN ?_ _) | (with_reducible refine Kd.C_drew ?_) | exact HR134.out)) | (with_reducible refine Kd.C_alloc ?_ _) | (with_reducible refine Kd.C_drewN ?_ _) | (with_reducible refine Kd.C_drew ?_)))
                            (case side2 => exact HC134.out)
                            rintro e w43 ⟨v136, rfl, ho0, hb⟩
                            refine ⟨_, rfl, ?_⟩
                            have n_ := y9 (Kd.R_elder' (zR HO_5.out) (Kd.R_base ho0) hb) (Kd.R_elder' (zR HO_6.out) (Kd.R_base ho0) hb) (Kd.R_elder' (zR HO140.out) (Kd.R_base ho0) hb) (Kd.R_lower (Kd.R_new' (Kd.R_new' (Kd.R_new' ho0 (Kd.R_lt (zR HO_5.out))) (Kd.R_lt (zR HO_6.out))) (Kd.R_lt (zR HO140.out))) (keep_size (w := w) (g := g) (row := none) (zK))) (IsS60.below (zI) hb) (Kd.C_below (by repeat (first | (with_reducible exact HR134.out) | (with_reducible refine Kd.C_alloc ?_ _) | (with_reducible refine Kd.C_drewN ?_ _) | (with_reducible refine Kd.C_drew ?_) | exact HR134.out)) hb) (Kd.C_below (by repeat (first | (with_reducible exact HR147.out) | (with_reducible refine Kd.C_alloc ?_ _) | (with_reducible refine Kd.C_drewN ?_ _) | (with_reducible refine Kd.C_drew ?_) | exact HR147.out)) hb) (KeepBut.trans (zK) (KeepBut.of_below hb g none) (.inl rfl)) (below_step (zB) hb)
                            clear HO_5 HO_6 HO140 HI0 HR134 HR147 HK HB
                            obtain ⟨HO_5, HO_6, HO140, HO137, HI0, HR134, HR147, HK, HB⟩ := n_
                            (try clear hb)
                            (try clear hb2)
                            (try clear hk)
                            (try clear hi)
                            (try clear ho0)
                            refine hK.out _ _ trivial (fun hHeld => ?_)
                            clear hK K
                            refine norm_ (a' := ?_) ?_ ?_
                            rotate_left
                            · show Act.put _ (some 37) _ = _
                              simp only [Act.put, List.setIfInBounds_toArray, List.set_cons_zero, List.set_cons_succ, i64_w, i32_w]
                              rfl
                            exact norm_ (by simp only [putAll, Act.put, List.setIfInBounds_toArray, List.set_cons_zero, List.set_cons_succ]) (hCont (v136, v139) _ ⟨(by refine zR ?_; exact Kd.R_mono HO137.out (fun _ hk => ⟨hk.2, ⟨hk.1.1.2, hk.1.2⟩⟩)), (by refine zR ?_; exact Kd.R_mono HO140.out (fun _ hk => ⟨hk.2, ⟨hk.1.1.2, hk.1.2⟩⟩)), (by refine zR ?_; exact Kd.R_mono HO_5.out (fun _ hk => ⟨hk.2, ⟨hk.1.2, hk.1.1⟩⟩)), (by refine zR ?_; exact Kd.R_mono HO_6.out (fun _ hk => ⟨hk.2, ⟨hk.1.2, hk.1.1⟩⟩)), (zI), (zK), (zB)⟩)
                        rintro ⟨v136, v139⟩ w44 ⟨h0_, h1_, h2_, h3_, h4_, h5_, h6_⟩
                        have n0_ : Aside0 (Kd.R (Kd.int .i64) 2 w44 w.heap.size (fun k_ => some k_ ≠ (v139 : Value).ownBlock ∧ some k_ ≠ (.slice (some ad127) t101.length co23 : Value).ownBlock ∧ some k_ ≠ (.slice Ao36 x6_2.length co36 : Value).ownBlock) v136 t135) := ⟨h0_⟩
                        have n1_ : Aside0 (Kd.R (Kd.int .i64) 2 w44 w.heap.size (fun k_ => some k_ ≠ (v136 : Value).ownBlock ∧ some k_ ≠ (.slice (some ad127) t101.length co23 : Value).ownBlock ∧ some k_ ≠ (.slice Ao36 x6_2.length co36 : Value).ownBlock) v139 y138) := ⟨h1_⟩
                        have n2_ : Aside0 (Kd.R (Kd.int .i64) 2 w44 w.heap.size (fun k_ => some k_ ≠ (v136 : Value).ownBlock ∧ some k_ ≠ (v139 : Value).ownBlock ∧ some k_ ≠ (.slice Ao36 x6_2.length co36 : Value).ownBlock) (.slice (some ad127) t101.length co23) t101) := ⟨h2_⟩
                        have n3_ : Aside0 (Kd.R (Kd.int .i64) 2 w44 w.heap.size (fun k_ => some k_ ≠ (v136 : Value).ownBlock ∧ some k_ ≠ (v139 : Value).ownBlock ∧ some k_ ≠ (.slice (some ad127) t101.length co23 : Value).ownBlock) (.slice Ao36 x6_2.length co36) x6_2) := ⟨h3_⟩
                        have n4_ : Aside0 (IsS60 w0 w44 g s0_0 t129 t130) := ⟨h4_⟩
                        have n5_ : Aside0 (KeepBut w w44 g none) := ⟨h5_⟩
                        have n6_ : Aside0 (Below w0.heap.size w0 w44) := ⟨h6_⟩
                        clear HO_5
                        clear HO_6
                        clear HI0
                        clear HK
                        clear HB
                        clear h0_ h1_ h2_ h3_ h4_ h5_ h6_
                        have HO137 := n0_
                        have HO140 := n1_
                        have HO_5 := n2_
                        have HO_6 := n3_
                        have HI0 := n4_
                        have HK := n5_
                        have HB := n6_
                        clear n0_ n1_ n2_ n3_ n4_ n5_ n6_
                        have hHeld := trivial
                        obtain ⟨Ao46, co46, eo46⟩ := Kd.R_slice HO140.out
                        (first | subst eo46 | (injection eo46 with f1_ f2_ f3_; have f4_ := f1_.symm; have f5_ := f3_.symm; clear f1_ f2_ f3_; subst f4_; subst f5_))
                        refine norm_ (a' := ?_) ?_ ?_
                        rotate_left
                        · simp only [putAll, Act.put, List.setIfInBounds_toArray, List.set_cons_zero, List.set_cons_succ]
                          rfl
                        refine one_ (i := 6) (N := some 40) #[true,true,true,true,true,true,true,true,true,true,false,false] rfl rfl (one_of HT_.out zk) (by decide) (fun K hK => ?_)
                        refine Kd.R_append_rows_step (Kd.int .i64) w.heap.size (by rfl) (.tmp 37) (.tmp 39) 24 2 (.int .i64 0) 8 rfl Try.underlying24 info2 rfl (by decide) (by omega) v136 t135 y138 _ _ _ (fun k_ => some k_ ≠ (.slice (some ad127) t101.length co23 : Value).ownBlock ∧ some k_ ≠ (.slice Ao36 x6_2.length co36 : Value).ownBlock ∧ some k_ ≠ (.slice Ao46 y138.length co46 : Value).ownBlock) (fun _ => False) rfl rfl ?aO ?aR (fun _ _ h => h) (fun _ h => h.elim) ?aF (Below.refl _ _) ?aS ?aL ?_
                        (case aR => repeat (first | exact (Kd.R_reads' HO140.out).2.2 | (with_reducible refine Kd.C_alloc ?_ _) | (with_reducible refine Kd.C_drewN ?_ _) | (with_reducible refine Kd.C_drew ?_)))
                        (case aF => exact (fun k_ hk => ⟨Kd.fresh' (Kd.R_lt (zR HO_5.out)) k_ hk, Kd.fresh' (Kd.R_lt (zR HO_6.out)) k_ hk, Kd.fresh' (Kd.R_lt (zR HO140.out)) k_ hk⟩))
                        (case aO => exact (by refine zR ?_; exact Kd.R_mono HO137.out (fun _ hk => ⟨hk.2.1, ⟨hk.2.2, hk.1⟩⟩)))
                        (case aS => exact (keep_size (w := w) (g := g) (row := none) (zK)))
                        (case aL => have := LMc32.out; omega)
                        intro v142 w45 ho hb hg hat
                        rw [← Ny141.out] at ho
                        have n_ := y7 (Kd.R_after (ok := (fun k_ => some k_ ≠ (.slice Ao36 x6_2.length co36 : Value).ownBlock ∧ some k_ ≠ (.slice Ao46 y138.length co46 : Value).ownBlock)) (by refine zR ?_; exact Kd.R_mono HO_5.out (fun _ hk => ⟨⟨hk.2.2, hk.2.1⟩, hk.1⟩)) hg hat) (Kd.R_after (ok := (fun k_ => some k_ ≠ (.slice (some ad127) t101.length co23 : Value).ownBlock ∧ some k_ ≠ (.slice Ao46 y138.length co46 : Value).ownBlock)) (by refine zR ?_; exact Kd.R_mono HO_6.out (fun _ hk => ⟨⟨hk.2.2, hk.2.1⟩, hk.1⟩)) hg hat) (IsS60.grown (zI) hg (IsS60.own_ne HI0.out HO137.out (by decide))) (Kd.R_after (ok := (fun k_ => some k_ ≠ (.slice (some ad127) t101.length co23 : Value).ownBlock ∧ some k_ ≠ (.slice Ao36 x6_2.length co36 : Value).ownBlock)) (by refine zR ?_; exact Kd.R_mono HO140.out (fun _ hk => ⟨⟨hk.2.1, hk.2.2⟩, hk.1⟩)) hg hat) (below_weaken (zB) HL.out hb) (KeepBut.trans (zK) (KeepBut.of_grown hg g) (Kd.R_base2 HO137.out)) (ho)
                        clear HO_5 HO_6 HI0 HO140 HB HK HO137
                        obtain ⟨HO_5, HO_6, HI0, HO140, HB, HK, HO143⟩ := n_
                        clear ho hb hg hat
                        refine hK.out _ _ trivial (fun hHeld => ?_)
                        clear hK K
                        refine norm_ (a' := ?_) ?_ ?_
                        rotate_left
                        · show Act.put _ (some 40) _ = _
                          simp only [Act.put, List.setIfInBounds_toArray, List.set_cons_zero, List.set_cons_succ, i64_w, i32_w]
                          rfl
                        refine one_ (i := 10) (N := some 44) #[true,true,true,true,true,true,true,true,true,true,true,false] rfl rfl (one_of HT_.out zk) (by decide) (fun K hK => ?_)
                        refine Kd.R_append_rows_step (Kd.int .i64) w.heap.size (by rfl) (.tmp 40) (.tmp 43) 24 2 (.int .i64 0) 8 rfl Try.underlying24 info2 rfl (by decide) (by omega) v142 y141 y144 _ _ _ (fun k_ => some k_ ≠ (.slice (some ad127) t101.length co23 : Value).ownBlock ∧ some k_ ≠ (.slice Ao36 x6_2.length co36 : Value).ownBlock ∧ some k_ ≠ (.slice Ao46 y138.length co46 : Value).ownBlock) (fun _ => False) rfl rfl ?aO ?aR (fun _ _ h => h) (fun _ h => h.elim) ?aF (Below.refl _ _) ?aS ?aL ?_
                        (case aR => repeat (first | exact (show Kd.C (Kd.int .i64) _ A40 y144.length y144 from by rw [Ny144.out, KA40.out]; exact Kd.C_drop (m := (t128 : Int).toNat) (c := co36) ((Kd.R_reads' HO_6.out).2.2) KL40.out ((Kd.R_reads' HO_6.out).2.1)) | (with_reducible refine Kd.C_alloc ?_ _) | (with_reducible refine Kd.C_drewN ?_ _) | (with_reducible refine Kd.C_drew ?_)))
                        (case aF => exact (fun k_ hk => ⟨Kd.fresh' (Kd.R_lt (zR HO_5.out)) k_ hk, Kd.fresh' (Kd.R_lt (zR HO_6.out)) k_ hk, Kd.fresh' (Kd.R_lt (zR HO140.out)) k_ hk⟩))
                        (case aO => exact (zR HO143.out))
                        (case aS => exact (keep_size (w := w) (g := g) (row := none) (zK)))
                        (case aL => have := LMc35.out; omega)
                        intro v149 w47 ho hb hg hat
                        rw [← Ny148.out] at ho
                        have n_ := y7 (Kd.R_after (ok := (fun k_ => some k_ ≠ (.slice Ao36 x6_2.length co36 : Value).ownBlock ∧ some k_ ≠ (.slice Ao46 y138.length co46 : Value).ownBlock)) (zR HO_5.out) hg hat) (Kd.R_after (ok := (fun k_ => some k_ ≠ (.slice (some ad127) t101.length co23 : Value).ownBlock ∧ some k_ ≠ (.slice Ao46 y138.length co46 : Value).ownBlock)) (zR HO_6.out) hg hat) (IsS60.grown (zI) hg (IsS60.own_ne HI0.out HO143.out (by decide))) (Kd.R_after (ok := (fun k_ => some k_ ≠ (.slice (some ad127) t101.length co23 : Value).ownBlock ∧ some k_ ≠ (.slice Ao36 x6_2.length co36 : Value).ownBlock)) (zR HO140.out) hg hat) (below_weaken (zB) HL.out hb) (KeepBut.trans (zK) (KeepBut.of_grown hg g) (Kd.R_base2 HO143.out)) (ho)
                        clear HO_5 HO_6 HI0 HO140 HB HK HO143
                        obtain ⟨HO_5, HO_6, HI0, HO140, HB, HK, HO150⟩ := n_
                        clear ho hb hg hat
                        refine hK.out _ _ trivial (fun hHeld => ?_)
                        clear hK K
                        refine norm_ (a' := ?_) ?_ ?_
                        rotate_left
                        · show Act.put _ (some 44) _ = _
                          simp only [Act.put, List.setIfInBounds_toArray, List.set_cons_zero, List.set_cons_succ, i64_w, i32_w]
                          rfl
                        refine pure_ (i := 11) (N := some 6) (v := ?_) (a' := ?_) #[true,true,true,true,true,true,true,true,true,true,true,true] rfl rfl (any_of HT_.out zk) (fun _ _ _ h => h) (Or.inl ⟨by rfl, ?_⟩) ?_ ?_
                        rotate_left; exact zp; rotate_left; exact zq
                        refine done_ (done_of HT_.out zk) ?_
                        try go_wp2
                        go_roundg k2
                        case measure => have := HK1.out; have := HK2.out; omega
                        case rel => exact ⟨(y148), (wrap64 (x8_2 - 1)), (t129), (t130), zF, H', ⟨by have := HK1.out; have := HK2.out; omega⟩, ⟨by refine zR ?_; exact Kd.R_mono HO_5.out (fun _ hk => hk.2)⟩, ⟨by refine zR ?_; exact Kd.R_mono HO150.out (fun _ hk => hk.1)⟩, ⟨zI⟩, ⟨zK⟩, ⟨zB⟩⟩
                      · rw [if_neg c35] at H
                        exact absurd H (by simp)
                    · rw [if_neg c32] at H
                      exact absurd H (by simp)
                  · rw [if_neg c30] at H
                    exact absurd H (by simp)
                · rw [if_neg c29] at H
                  exact absurd H (by simp)
              · rw [if_neg c27] at H
                have c27b0 : decide (0 < x8_2) = false := decide_eq_false c27
                clear c27
                have H' := Aside0.mk H
                clear H
                go_wp2
                go_roundg k2
                case measure => have := HK1.out; have := HK2.out; omega
                case rel => exact ⟨(x6_2), (wrap64 (x18_1 + 1)), (x1001_2), (x1002_2), zF, H', ⟨by have := HK1.out; have := HK2.out; omega⟩, ⟨zR HO_5.out⟩, ⟨zR HO_6.out⟩, ⟨zI⟩, ⟨zK⟩, ⟨zB⟩⟩
        · rw [if_neg c26] at H
          exact absurd H (by simp)
      · rw [if_neg c25] at H
        exact absurd H (by simp)
    · rw [if_neg c24] at H
      have c24b0 : decide (x18_1 < (t101.length : Int)) = false := decide_eq_false c24
      clear c24
      have H' := Aside0.mk H
      clear H
      go_wp2
      go_meet
      case rel => exact ⟨_, (x6_1), (x1001_1), (x1002_1), H', ⟨by have := HK1.out; first | omega | exact Nat.le_refl _⟩, ⟨by refine zR ?_; exact Kd.R_mono HO_6.out (fun _ hk => trivial)⟩, ⟨zI⟩, ⟨zK⟩, ⟨zB⟩⟩
 clear HC5
 obtain ⟨kq, x6_4, x1001_4, x1002_4, HA, HJ4, HO_6, HI0, HK, HB⟩ := hcut
 cases kq with
 | zero => exact absurd HA.out (by simp [spec_l07Draw.j2])
 | succ kj4 =>
   have H := HA.out
   clear HA
   simp only [spec_l07Draw.j2] at H
   replace H := Option.bind_eq_some_iff.mp H
   obtain ⟨⟨t151, t152, t153⟩, A480, H⟩ := H
   replace H : (if t151 = 0 then ((some (([(-1)] : List Int) : List Int)).bind fun y154 => (if x6_4.length + y154.length < 17592186044416 then ((spec_l01BadTurns.f kj4 s0_0 t152 t153 (x6_4 ++ y154)).bind fun bt160 => (some (bt160.1, bt160.2.1, bt160.2.2))) else (none))) else (if t151 = 1 then ((some (([7] : List Int) : List Int)).bind fun y165 => (if x6_4.length + y165.length < 17592186044416 then ((spec_l01BadTurns.f kj4 s0_0 t152 t153 (x6_4 ++ y165)).bind fun bt171 => (some (bt171.1, bt171.2.1, bt171.2.2))) else (none))) else ((spec_l01BadTurns.f kj4 s0_0 t152 t153 x6_4).bind fun bt176 => (some (bt176.1, bt176.2.1, bt176.2.2))))) = some (r1, r2, r3) := H
   have A48 := Aside0.mk A480
   clear A480
   by_cases c49 : t151 = 0
   · rw [if_pos c49] at H
     have c49b0 : (t151 == 0) = true := beq_iff_eq.mpr c49
     have c49b1 : (t151 != 0) = false := bne_eq_false_iff_eq.mpr c49
     clear c49
     obtain ⟨y154, hy154⟩ : ∃ y_ : List Int, y_ = (([(-1)] : List Int)) := ⟨_, rfl⟩
     replace H : (if x6_4.length + y154.length < 17592186044416 then ((spec_l01BadTurns.f kj4 s0_0 t152 t153 (x6_4 ++ y154)).bind fun bt160 => (some (bt160.1, bt160.2.1, bt160.2.2))) else (none)) = some (r1, r2, r3) := zH hy154
     have Ny154 := Aside0.mk hy154
     clear hy154
     by_cases c50 : x6_4.length + y154.length < 17592186044416
     · rw [if_pos c50] at H
       have LMc50 := Aside0.mk c50
       clear c50
       obtain ⟨y157, hy157⟩ : ∃ y_ : List Int, y_ = (x6_4 ++ y154) := ⟨_, rfl⟩
       replace H : ((spec_l01BadTurns.f kj4 s0_0 t152 t153 y157).bind fun bt160 => (some (bt160.1, bt160.2.1, bt160.2.2))) = some (r1, r2, r3) := zH hy157
       have Ny157 := Aside0.mk hy157
       clear hy157
       replace H := Option.bind_eq_some_iff.mp H
       obtain ⟨⟨t160, t163, t164⟩, A510, H⟩ := H
       replace H : (some (t160, t163, t164)) = some (r1, r2, r3) := H
       have A51 := Aside0.mk A510
       clear A510
       simp only [Option.some.injEq, Prod.mk.injEq] at H
       obtain ⟨rfl, rfl, rfl⟩ := H
       go_wp2_with (first | ((with_reducible refine gate_callee (f := 55) rfl ?_); refine goesL_ (some 68) rfl rfl Try.func55 zk rfl #[.pointer (some ⟨g, 0, none⟩), .int .i64 24] rfl zA ?_; (with_reducible refine (spec_l01Next.calls g s0_0 x1001_4 x1002_4 24 t151 t152 t153 w0 _ ?side1 ?side2 A48.out).mono ?_); (case side1 => exact zI); (case side2 => exact zB); rintro e w52 ⟨rfl, hi, hb, hk⟩; refine ⟨_, rfl, ?_⟩; have n_ := y4 (Kd.R_mono (Kd.R_keep (IsS60.apart (show IsS60 w0 _ g s0_0 x1001_4 x1002_4 from zI) (zR HO_6.out) (by decide)) hk (fun _ h => h.2)) (fun _ h => h.1)) (KeepBut.trans (zK) hk (.inl rfl)) (hb) (hi); clear HO_6 HK HB HI0; obtain ⟨HO_6, HK, HB, HI0⟩ := n_; (try clear hb); (try clear hb2); (try clear hk); (try clear hi)) | ((with_reducible refine gate_dst (N := 72) rfl ?_); refine Kd.R_lit (Kd.int .i64) _ 2 ?hg (N := 72) ?hd (xs := ([(-1)] : List Int)) (inner := [.int .i64 (-1)]) (ok := fun _ => True) (okp := fun _ => True) ?hr ?hp (fun _ hk => hk) trivial (Below.refl _ _) (Nat.le_refl _) (by simp) ?_; (case hd => rfl); (case hg => rfl); (case hr => first | (go_simp; done) | (go_simp; rfl)); (case hp => exact (Reps.one (show Kd.M (Kd.int .i64) _ _ _ (-1) [.int .i64 (-1)] from rfl) (Reps.none _ _))); intro v155 w53 ho54 hb hg_ hnew_; clear hg_ hnew_; (first | rw [← Ny154.out] at ho54 | (simp only [Int.reduceToNat] at ho54; rw [← Ny154.out] at ho54)); have n_ := y5 (Kd.R_elder' (zR HO_6.out) (Kd.R_base ho54) hb) (Kd.R_lower (Kd.R_new' ho54 (Kd.R_lt (zR HO_6.out))) (keep_size (w := w) (g := g) (row := none) (zK))) (IsS60.below (zI) hb) (KeepBut.trans (zK) (KeepBut.of_below hb g none) (.inl rfl)) (below_step (zB) hb); clear HO_6 HI0 HK HB; obtain ⟨HO_6, HO156, HI0, HK, HB⟩ := n_; clear hb ho54; obtain ⟨Ao56, co56, eo56⟩ := Kd.R_slice HO156.out; subst eo56) | ((with_reducible refine gate_builtin (b := .append) (xs := #[.tmp 71, .tmp 72]) rfl ?_); at_builtin; refine Kd.R_append_rows (Kd.int .i64) w.heap.size rfl (.tmp 71) (.tmp 72) 24 2 (.int .i64 0) 8 rfl Try.underlying24 info2 rfl (by decide) (by omega) u6 x6_4 y154 _ _ _ (fun k_ => some k_ ≠ (.slice Ao56 y154.length co56 : Value).ownBlock) (fun _ => False) rfl rfl ?aO ?aR (fun _ _ h => h) (fun _ h => h.elim) ?aF (Below.refl _ _) ?aS ?aL ?_; (case aR => repeat (first | exact (Kd.R_reads' HO156.out).2.2 | (with_reducible refine Kd.C_alloc ?_ _) | (with_reducible refine Kd.C_drewN ?_ _) | (with_reducible refine Kd.C_drew ?_))); (case aF => exact (fun k_ hk => Kd.fresh' (Kd.R_lt (zR HO156.out)) k_ hk)); (case aO => exact (by refine zR ?_; exact Kd.R_mono HO_6.out (fun _ hk => hk.2))); (case aS => exact (keep_size (w := w) (g := g) (row := none) (zK))); (case aL => have := LMc50.out; omega); intro v158 w55 ho hb hg hat; rw [← Ny157.out] at ho; have n_ := y5 (IsS60.grown (zI) hg (IsS60.own_ne HI0.out HO_6.out (by decide))) (Kd.R_after (ok := (fun _ => True)) (zR HO156.out) hg hat) (below_weaken (zB) HL.out hb) (KeepBut.trans (zK) (KeepBut.of_grown hg g) (Kd.R_base2 HO_6.out)) (ho); clear HI0 HO156 HB HK HO_6; obtain ⟨HI0, HO156, HB, HK, HO159⟩ := n_; clear ho hb hg hat; obtain ⟨Ao57, co57, eo57⟩ := Kd.R_slice HO159.out; subst eo57) | ((with_reducible refine gate_callee (f := 59) rfl ?_); refine goesL_ (some 81) rfl rfl Try.func59 zk rfl #[.pointer (some ⟨g, 0, none⟩), .slice Ao57 y157.length co57] rfl zA ?_; (with_reducible refine (spec_l01BadTurns.calls kj4 g s0_0 t152 t153 _ _ y157 t160 t163 t164 w0 _ ?side1 ?side2 ?side3 ?side4 ?side5 A51.out).mono ?_); (case side1 => exact zI); (case side2 => exact zB); (case side3 => exact zC (Kd.R_reads' HO159.out).2.2); (case side4 => exact (Kd.R_reads' HO159.out).2.1); (case side5 => exact far_slice (IsS60.own_ne HI0.out HO159.out (by decide))); rintro e w58 ⟨v161, rfl, ho0, hi, hb, hk⟩; refine ⟨_, rfl, ?_⟩; have n_ := y6 (Kd.R_mono (Kd.R_told (Kd.R_oldK (IsS60.apart (show IsS60 w0 _ g s0_0 t152 t153 from zI) (zR HO156.out) (by decide)) hk) (Kd.R_base ho0)) (fun _ h_ => h_.1)) (Kd.R_mono (Kd.R_told (Kd.R_oldK (IsS60.apart (show IsS60 w0 _ g s0_0 t152 t153 from zI) (zR HO159.out) (by decide)) hk) (Kd.R_base ho0)) (fun _ h_ => h_.1)) (Kd.R_lower (Kd.R_new' (Kd.R_new' ho0 (Kd.R_lt (zR HO156.out))) (Kd.R_lt (zR HO159.out))) (keep_size (w := w) (g := g) (row := none) (zK))) (KeepBut.trans (zK) hk (.inl rfl)) (hb) (hi); clear HO156 HO159 HK HB HI0; obtain ⟨HO156, HO159, HO162, HK, HB, HI0⟩ := n_; (try clear hb); (try clear hb2); (try clear hk); (try clear hi); (try clear ho0)))
       go_ret
       exact ⟨_, zE, by refine zR ?_; exact Kd.R_mono HO162.out (fun _ hk => trivial), zI, zB, zK⟩
     · rw [if_neg c50] at H
       exact absurd H (by simp)
   · rw [if_neg c49] at H
     have c49b0 : (t151 == 0) = false := beq_eq_false_iff_ne.mpr c49
     have c49b1 : (t151 != 0) = true := bne_iff_ne.mpr c49
     by_cases c59 : t151 = 1
     · rw [if_pos c59] at H
       have c59b0 : (t151 == 1) = true := beq_iff_eq.mpr c59
       have c59b1 : (t151 != 1) = false := bne_eq_false_iff_eq.mpr c59
       clear c59
       obtain ⟨y165, hy165⟩ : ∃ y_ : List Int, y_ = (([7] : List Int)) := ⟨_, rfl⟩
       replace H : (if x6_4.length + y165.length < 17592186044416 then ((spec_l01BadTurns.f kj4 s0_0 t152 t153 (x6_4 ++ y165)).bind fun bt171 => (some (bt171.1, bt171.2.1, bt171.2.2))) else (none)) = some (r1, r2, r3) := zH hy165
       have Ny165 := Aside0.mk hy165
       clear hy165
       by_cases c60 : x6_4.length + y165.length < 17592186044416
       · rw [if_pos c60] at H
         have LMc60 := Aside0.mk c60
         clear c60
         obtain ⟨y168, hy168⟩ : ∃ y_ : List Int, y_ = (x6_4 ++ y165) := ⟨_, rfl⟩
         replace H : ((spec_l01BadTurns.f kj4 s0_0 t152 t153 y168).bind fun bt171 => (some (bt171.1, bt171.2.1, bt171.2.2))) = some (r1, r2, r3) := zH hy168
         have Ny168 := Aside0.mk hy168
         clear hy168
         replace H := Option.bind_eq_some_iff.mp H
         obtain ⟨⟨t171, t174, t175⟩, A610, H⟩ := H
         replace H : (some (t171, t174, t175)) = some (r1, r2, r3) := H
         have A61 := Aside0.mk A610
         clear A610
         simp only [Option.some.injEq, Prod.mk.injEq] at H
         obtain ⟨rfl, rfl, rfl⟩ := H
         go_wp2_with (first | ((with_reducible refine gate_callee (f := 55) rfl ?_); refine goesL_ (some 68) rfl rfl Try.func55 zk rfl #[.pointer (some ⟨g, 0, none⟩), .int .i64 24] rfl zA ?_; (with_reducible refine (spec_l01Next.calls g s0_0 x1001_4 x1002_4 24 t151 t152 t153 w0 _ ?side1 ?side2 A48.out).mono ?_); (case side1 => exact zI); (case side2 => exact zB); rintro e w62 ⟨rfl, hi, hb, hk⟩; refine ⟨_, rfl, ?_⟩; have n_ := y4 (Kd.R_mono (Kd.R_keep (IsS60.apart (show IsS60 w0 _ g s0_0 x1001_4 x1002_4 from zI) (zR HO_6.out) (by decide)) hk (fun _ h => h.2)) (fun _ h => h.1)) (KeepBut.trans (zK) hk (.inl rfl)) (hb) (hi); clear HO_6 HK HB HI0; obtain ⟨HO_6, HK, HB, HI0⟩ := n_; (try clear hb); (try clear hb2); (try clear hk); (try clear hi)) | ((with_reducible refine gate_dst (N := 77) rfl ?_); refine Kd.R_lit (Kd.int .i64) _ 2 ?hg (N := 77) ?hd (xs := ([7] : List Int)) (inner := [.int .i64 7]) (ok := fun _ => True) (okp := fun _ => True) ?hr ?hp (fun _ hk => hk) trivial (Below.refl _ _) (Nat.le_refl _) (by simp) ?_; (case hd => rfl); (case hg => rfl); (case hr => first | (go_simp; done) | (go_simp; rfl)); (case hp => exact (Reps.one (show Kd.M (Kd.int .i64) _ _ _ 7 [.int .i64 7] from rfl) (Reps.none _ _))); intro v166 w63 ho64 hb hg_ hnew_; clear hg_ hnew_; (first | rw [← Ny165.out] at ho64 | (simp only [Int.reduceToNat] at ho64; rw [← Ny165.out] at ho64)); have n_ := y5 (Kd.R_elder' (zR HO_6.out) (Kd.R_base ho64) hb) (Kd.R_lower (Kd.R_new' ho64 (Kd.R_lt (zR HO_6.out))) (keep_size (w := w) (g := g) (row := none) (zK))) (IsS60.below (zI) hb) (KeepBut.trans (zK) (KeepBut.of_below hb g none) (.inl rfl)) (below_step (zB) hb); clear HO_6 HI0 HK HB; obtain ⟨HO_6, HO167, HI0, HK, HB⟩ := n_; clear hb ho64; obtain ⟨Ao66, co66, eo66⟩ := Kd.R_slice HO167.out; subst eo66) | ((with_reducible refine gate_builtin (b := .append) (xs := #[.tmp 76, .tmp 77]) rfl ?_); at_builtin; refine Kd.R_append_rows (Kd.int .i64) w.heap.size rfl (.tmp 76) (.tmp 77) 24 2 (.int .i64 0) 8 rfl Try.underlying24 info2 rfl (by decide) (by omega) u6 x6_4 y165 _ _ _ (fun k_ => some k_ ≠ (.slice Ao66 y165.length co66 : Value).ownBlock) (fun _ => False) rfl rfl ?aO ?aR (fun _ _ h => h) (fun _ h => h.elim) ?aF (Below.refl _ _) ?aS ?aL ?_; (case aR => repeat (first | exact (Kd.R_reads' HO167.out).2.2 | (with_reducible refine Kd.C_alloc ?_ _) | (with_reducible refine Kd.C_drewN ?_ _) | (with_reducible refine Kd.C_drew ?_))); (case aF => exact (fun k_ hk => Kd.fresh' (Kd.R_lt (zR HO167.out)) k_ hk)); (case aO => exact (by refine zR ?_; exact Kd.R_mono HO_6.out (fun _ hk => hk.2))); (case aS => exact (keep_size (w := w) (g := g) (row := none) (zK))); (case aL => have := LMc60.out; omega); intro v169 w65 ho hb hg hat; rw [← Ny168.out] at ho; have n_ := y5 (IsS60.grown (zI) hg (IsS60.own_ne HI0.out HO_6.out (by decide))) (Kd.R_after (ok := (fun _ => True)) (zR HO167.out) hg hat) (below_weaken (zB) HL.out hb) (KeepBut.trans (zK) (KeepBut.of_grown hg g) (Kd.R_base2 HO_6.out)) (ho); clear HI0 HO167 HB HK HO_6; obtain ⟨HI0, HO167, HB, HK, HO170⟩ := n_; clear ho hb hg hat; obtain ⟨Ao67, co67, eo67⟩ := Kd.R_slice HO170.out; subst eo67) | ((with_reducible refine gate_callee (f := 59) rfl ?_); refine goesL_ (some 81) rfl rfl Try.func59 zk rfl #[.pointer (some ⟨g, 0, none⟩), .slice Ao67 y168.length co67] rfl zA ?_; (with_reducible refine (spec_l01BadTurns.calls kj4 g s0_0 t152 t153 _ _ y168 t171 t174 t175 w0 _ ?side1 ?side2 ?side3 ?side4 ?side5 A61.out).mono ?_); (case side1 => exact zI); (case side2 => exact zB); (case side3 => exact zC (Kd.R_reads' HO170.out).2.2); (case side4 => exact (Kd.R_reads' HO170.out).2.1); (case side5 => exact far_slice (IsS60.own_ne HI0.out HO170.out (by decide))); rintro e w68 ⟨v172, rfl, ho0, hi, hb, hk⟩; refine ⟨_, rfl, ?_⟩; have n_ := y6 (Kd.R_mono (Kd.R_told (Kd.R_oldK (IsS60.apart (show IsS60 w0 _ g s0_0 t152 t153 from zI) (zR HO167.out) (by decide)) hk) (Kd.R_base ho0)) (fun _ h_ => h_.1)) (Kd.R_mono (Kd.R_told (Kd.R_oldK (IsS60.apart (show IsS60 w0 _ g s0_0 t152 t153 from zI) (zR HO170.out) (by decide)) hk) (Kd.R_base ho0)) (fun _ h_ => h_.1)) (Kd.R_lower (Kd.R_new' (Kd.R_new' ho0 (Kd.R_lt (zR HO167.out))) (Kd.R_lt (zR HO170.out))) (keep_size (w := w) (g := g) (row := none) (zK))) (KeepBut.trans (zK) hk (.inl rfl)) (hb) (hi); clear HO167 HO170 HK HB HI0; obtain ⟨HO167, HO170, HO173, HK, HB, HI0⟩ := n_; (try clear hb); (try clear hb2); (try clear hk); (try clear hi); (try clear ho0)))
         go_ret
         exact ⟨_, zE, by refine zR ?_; exact Kd.R_mono HO173.out (fun _ hk => trivial), zI, zB, zK⟩
       · rw [if_neg c60] at H
         exact absurd H (by simp)
     · rw [if_neg c59] at H
       have c59b0 : (t151 == 1) = false := beq_eq_false_iff_ne.mpr c59
       have c59b1 : (t151 != 1) = true := bne_iff_ne.mpr c59
       replace H := Option.bind_eq_some_iff.mp H
       obtain ⟨⟨t176, t179, t180⟩, A690, H⟩ := H
       replace H : (some (t176, t179, t180)) = some (r1, r2, r3) := H
       have A69 := Aside0.mk A690
       clear A690
       simp only [Option.some.injEq, Prod.mk.injEq] at H
       obtain ⟨rfl, rfl, rfl⟩ := H
       go_wp2_with (first | ((with_reducible refine gate_callee (f := 55) rfl ?_); refine goesL_ (some 68) rfl rfl Try.func55 zk rfl #[.pointer (some ⟨g, 0, none⟩), .int .i64 24] rfl zA ?_; (with_reducible refine (spec_l01Next.calls g s0_0 x1001_4 x1002_4 24 t151 t152 t153 w0 _ ?side1 ?side2 A48.out).mono ?_); (case side1 => exact zI); (case side2 => exact zB); rintro e w70 ⟨rfl, hi, hb, hk⟩; refine ⟨_, rfl, ?_⟩; have n_ := y4 (Kd.R_mono (Kd.R_keep (IsS60.apart (show IsS60 w0 _ g s0_0 x1001_4 x1002_4 from zI) (zR HO_6.out) (by decide)) hk (fun _ h => h.2)) (fun _ h => h.1)) (KeepBut.trans (zK) hk (.inl rfl)) (hb) (hi); clear HO_6 HK HB HI0; obtain ⟨HO_6, HK, HB, HI0⟩ := n_; (try clear hb); (try clear hb2); (try clear hk); (try clear hi); obtain ⟨Ao71, co71, eo71⟩ := Kd.R_slice HO_6.out; subst eo71) | ((with_reducible refine gate_callee (f := 59) rfl ?_); refine goesL_ (some 81) rfl rfl Try.func59 zk rfl #[.pointer (some ⟨g, 0, none⟩), .slice Ao71 x6_4.length co71] rfl zA ?_; (with_reducible refine (spec_l01BadTurns.calls kj4 g s0_0 t152 t153 _ _ x6_4 t176 t179 t180 w0 _ ?side1 ?side2 ?side3 ?side4 ?side5 A69.out).mono ?_); (case side1 => exact zI); (case side2 => exact zB); (case side3 => exact zC (Kd.R_reads' HO_6.out).2.2); (case side4 => exact (Kd.R_reads' HO_6.out).2.1); (case side5 => exact far_slice (IsS60.own_ne HI0.out HO_6.out (by decide))); rintro e w72 ⟨v177, rfl, ho0, hi, hb, hk⟩; refine ⟨_, rfl, ?_⟩; have n_ := y5 (Kd.R_mono (Kd.R_told (Kd.R_oldK (IsS60.apart (show IsS60 w0 _ g s0_0 t152 t153 from zI) (zR HO_6.out) (by decide)) hk) (Kd.R_base ho0)) (fun _ h_ => h_.1)) (Kd.R_lower (Kd.R_new' ho0 (Kd.R_lt (zR HO_6.out))) (keep_size (w := w) (g := g) (row := none) (zK))) (KeepBut.trans (zK) hk (.inl rfl)) (hb) (hi); clear HO_6 HK HB HI0; obtain ⟨HO_6, HO178, HK, HB, HI0⟩ := n_; (try clear hb); (try clear hb2); (try clear hk); (try clear hi); (try clear ho0)))
       go_ret
       exact ⟨_, zE, by refine zR ?_; exact Kd.R_mono HO178.out (fun _ hk => trivial), zI, zB, zK⟩
end Go.Proofs.Ytfmjckkgnieccaa.P
end
section
namespace Go.Proofs.Ytfmjckkgnieccaa.P
open Go.RowKit Go.Proofs.YtfmjckkgnieccaaW.PrintWords Go.Proofs.YtfmjckkgnieccaaW.PrintLast Go.Proofs.YtfmjckkgnieccaaW.PrintMore
attribute [local go_sem] max2_int min2_int max_two min_two max_three min_three max_four min_four   -- for this text's walks alone
set_option linter.unusedVariables false
set_option linter.unusedSimpArgs false
def spec_DrawSmoothTurns.f (k : Nat) (l0 : List Int) : Option (List Int) := (spec_l01From.f k l0).bind fun bt101 => ((spec_l01Pick.f bt101.1 bt101.2.1 bt101.2.2 (([8, 10, 14] : List Int))).bind fun bt108 => ((spec_l07Draw.f k bt101.1 bt108.2.1 bt108.2.2 bt108.1).bind fun bt111 => (some bt111.1)))
theorem spec_DrawSmoothTurns.mono : ∀ a0 k, LeO (spec_DrawSmoothTurns.f k a0) (spec_DrawSmoothTurns.f (k + 1) a0) := by
  intro a0 k
  unfold spec_DrawSmoothTurns.f
  repeat' first | (with_reducible exact spec_l01From.mono _ _) | (with_reducible exact spec_l07Draw.mono _ _ _ _ _) | (with_reducible exact LeO.refl _) | (with_reducible exact LeO.none _) | (with_reducible refine LeO.ite ?_ ?_) | (with_reducible refine LeO.bind ?_ (fun _ => ?_)) | exact spec_l01From.mono _ _ | exact spec_l07Draw.mono _ _ _ _ _ | exact LeO.none _ | refine LeO.ite ?_ ?_ | refine LeO.bind ?_ (fun _ => ?_)
set_option maxHeartbeats 8000000 in
set_option maxRecDepth 100000 in
theorem spec_DrawSmoothTurns.calls (k : Nat) (A0 : Option Addr) (c0 : Nat) (l0 : List Int) (r : List Int) (w : World) (hr0 : Kd.C (Kd.int .u8) w A0 l0.length l0) (hc0 : l0.length ≤ c0) (h : spec_DrawSmoothTurns.f k l0 = some r) :
    Calls Try.prog 5 #[.slice A0 l0.length c0] w fun e w' => ∃ v0_ : Value, e = .returned (v0_) ∧ Kd.R (Kd.int .i64) 2 w' w.heap.size (fun _ => True) v0_ r ∧ Below w.heap.size w w' := by
 have HR0 := Aside0.mk hr0
 have HC0 := Aside0.mk hc0
 clear hr0 hc0
 have HB := Aside0.mk (Below.refl w.heap.size w)
 have H : ((spec_l01From.f k l0).bind fun bt101 => ((spec_l01Pick.f bt101.1 bt101.2.1 bt101.2.2 (([8, 10, 14] : List Int))).bind fun bt108 => ((spec_l07Draw.f k bt101.1 bt108.2.1 bt108.2.2 bt108.1).bind fun bt111 => (some bt111.1)))) = some r := h
 clear h
 replace H := Option.bind_eq_some_iff.mp H
 obtain ⟨⟨t101, t102, t103⟩, A20, H⟩ := H
 replace H : ((spec_l01Pick.f t101 t102 t103 (([8, 10, 14] : List Int))).bind fun bt108 => ((spec_l07Draw.f k t101 bt108.2.1 bt108.2.2 bt108.1).bind fun bt111 => (some bt111.1))) = some r := H
 have A2 := Aside0.mk A20
 clear A20
 obtain ⟨y105, hy105⟩ : ∃ y_ : List Int, y_ = (([8, 10, 14] : List Int)) := ⟨_, rfl⟩
 replace H : ((spec_l01Pick.f t101 t102 t103 y105).bind fun bt108 => ((spec_l07Draw.f k t101 bt108.2.1 bt108.2.2 bt108.1).bind fun bt111 => (some bt111.1))) = some r := zH hy105
 have Ny105 := Aside0.mk hy105
 clear hy105
 replace H := Option.bind_eq_some_iff.mp H
 obtain ⟨⟨t108, t109, t110⟩, A30, H⟩ := H
 replace H : ((spec_l07Draw.f k t101 t109 t110 t108).bind fun bt111 => (some bt111.1)) = some r := H
 have A3 := Aside0.mk A30
 clear A30
 replace H := Option.bind_eq_some_iff.mp H
 obtain ⟨⟨t111, t114, t115⟩, A40, H⟩ := H
 replace H : (some t111) = some r := H
 have A4 := Aside0.mk A40
 clear A40
 obtain rfl := Option.some.inj H
 go_enter Try.func5, Try.ntmps5
 go_wp2_with (first | ((with_reducible refine gate_callee (f := 24) rfl ?_); refine goesL_ (some 5) rfl rfl Try.func24 zk rfl #[.slice A0 l0.length c0] rfl zA ?_; (with_reducible refine (spec_l01From.calls k _ _ l0 t101 t102 t103 w _ ?side1 ?side2 ?side3 A2.out).mono ?_); (case side1 => exact zB); (case side2 => exact HR0.out); (case side3 => exact HC0.out); rintro e w5 ⟨g104, rfl, hi, hb, hb2⟩; refine ⟨_, rfl, ?_⟩; have n_ := y2 (hb) (hi); clear HB; obtain ⟨HB, HI104⟩ := n_; (try clear hb); (try clear hb2); (try clear hk); (try clear hi)) | ((with_reducible refine gate_dst (N := 8) rfl ?_); refine Kd.R_lit (Kd.int .i64) _ 2 ?hg (N := 8) ?hd (xs := ([8, 10, 14] : List Int)) (inner := [.int .i64 8, .int .i64 10, .int .i64 14]) (ok := fun _ => True) (okp := fun _ => True) ?hr ?hp (fun _ hk => hk) trivial (Below.refl _ _) (Nat.le_refl _) (by simp) ?_; (case hd => rfl); (case hg => rfl); (case hr => first | (go_simp; done) | (go_simp; rfl)); (case hp => exact (Reps.one (show Kd.M (Kd.int .i64) _ _ _ 8 [.int .i64 8] from rfl) (Reps.one (show Kd.M (Kd.int .i64) _ _ _ 10 [.int .i64 10] from rfl) (Reps.one (show Kd.M (Kd.int .i64) _ _ _ 14 [.int .i64 14] from rfl) (Reps.none _ _))))); intro v106 w6 ho7 hb hg_ hnew_; clear hg_ hnew_; (first | rw [← Ny105.out] at ho7 | (simp only [Int.reduceToNat] at ho7; rw [← Ny105.out] at ho7)); have n_ := y3 (Kd.R_lower ho7 (below_size (zB))) (IsS60.below (zX HI104.out) hb) (below_step (zB) hb); clear HI104 HB; obtain ⟨HO107, HI104, HB⟩ := n_; clear hb ho7; obtain ⟨Ao8, co8, eo8⟩ := Kd.R_slice HO107.out; subst eo8) | ((with_reducible refine gate_callee (f := 26) rfl ?_); refine goesL_ (some 9) rfl rfl Try.func26 zk rfl #[.pointer (some ⟨g104, 0, none⟩), .slice Ao8 y105.length co8] rfl zA ?_; (with_reducible refine (spec_l01Pick.calls g104 t101 t102 t103 _ _ y105 t108 t109 t110 w _ ?side1 ?side2 ?side3 ?side4 ?side5 A3.out).mono ?_); (case side1 => exact zX HI104.out); (case side2 => exact zB); (case side3 => exact zC (Kd.R_reads' HO107.out).2.2); (case side4 => exact (Kd.R_reads' HO107.out).2.1); (case side5 => exact far_slice (IsS60.own_ne HI104.out HO107.out (by decide))); rintro e w9 ⟨rfl, hi, hb, hk⟩; refine ⟨_, rfl, ?_⟩; have n_ := y3 (Kd.R_mono (Kd.R_keep (IsS60.apart (show IsS60 w _ g104 t101 t102 t103 from zX HI104.out) (zR HO107.out) (by decide)) hk (fun _ h => h.2)) (fun _ h => h.1)) (hb) (hi); clear HO107 HB HI104; obtain ⟨HO107, HB, HI104⟩ := n_; (try clear hb); (try clear hb2); (try clear hk); (try clear hi)) | ((with_reducible refine gate_callee (f := 25) rfl ?_); refine goesL_ (some 10) rfl rfl Try.func25 zk rfl #[.pointer (some ⟨g104, 0, none⟩), .int .i64 t108] rfl zA ?_; (with_reducible refine (spec_l07Draw.calls k g104 t101 t109 t110 t108 t111 t114 t115 w _ ?side1 ?side2 A4.out).mono ?_); (case side1 => exact zX HI104.out); (case side2 => exact zB); rintro e w10 ⟨v112, rfl, ho0, hi, hb, hk⟩; refine ⟨_, rfl, ?_⟩; have n_ := y4 (Kd.R_mono (Kd.R_told (Kd.R_oldK (IsS60.apart (show IsS60 w _ g104 t101 t109 t110 from zX HI104.out) (zR HO107.out) (by decide)) hk) (Kd.R_base ho0)) (fun _ h_ => h_.1)) (Kd.R_lower (Kd.R_new' ho0 (Kd.R_lt (zR HO107.out))) (below_size (zB))) (hb) (hi); clear HO107 HB HI104; obtain ⟨HO107, HO113, HB, HI104⟩ := n_; (try clear hb); (try clear hb2); (try clear hk); (try clear hi); (try clear ho0)))
 go_ret
 exact ⟨_, zE, by refine zR ?_; exact Kd.R_mono HO113.out (fun _ hk => trivial), zB⟩
end Go.Proofs.Ytfmjckkgnieccaa.P
end
section
namespace Go.Proofs.Ytfmjckkgnieccaa.P
open Go.RowKit Go.Proofs.YtfmjckkgnieccaaW.PrintWords Go.Proofs.YtfmjckkgnieccaaW.PrintLast Go.Proofs.YtfmjckkgnieccaaW.PrintMore
attribute [local go_sem] max2_int min2_int max_two min_two max_three min_three max_four min_four   -- for this text's walks alone
set_option linter.unusedVariables false
set_option linter.unusedSimpArgs false
def slices_Clone_Sint64_int64.f (l0 : List Int) : Option (List Int) := if l0.length < 17592186044416 then some l0 else none
set_option maxHeartbeats 8000000 in
set_option maxRecDepth 100000 in
theorem slices_Clone_Sint64_int64.calls (A0 : Option Addr) (c0 : Nat) (l0 : List Int) (r : List Int) (w : World) (hr0 : Kd.C (Kd.int .i64) w A0 l0.length l0) (hc0 : l0.length ≤ c0) (h : slices_Clone_Sint64_int64.f l0 = some r) :
    Calls Try.prog 28 #[.slice A0 l0.length c0] w fun e w' => ∃ v0_ : Value, e = .returned (v0_) ∧ Kd.R (Kd.int .i64) 2 w' w.heap.size (fun _ => True) v0_ r ∧ Below w.heap.size w w' := by
  have hnil := fun (W : World) (a : Option Addr) (n c : Nat) => Lib.run_eql_slice_nil (P := Try.prog) W 24 2 a n c 0 0 Try.underlying24
  unfold slices_Clone_Sint64_int64.f at h
  by_cases c1 : l0.length < 17592186044416
  · rw [if_pos c1] at h
    obtain rfl := Option.some.inj h
    clear h
    have HR0 := Aside0.mk hr0
    have HC0 := Aside0.mk hc0
    have LM := Aside0.mk c1
    have HB := Aside0.mk (Below.refl w.heap.size w)
    cases A0 with
    | none =>
      have h0 : l0 = [] := by
        rcases Nat.eq_zero_or_pos l0.length with h | h
        · exact List.eq_nil_of_length_eq_zero h
        · obtain ⟨ad, e, _⟩ := hr0.2.2 h
          cases e
      subst h0
      clear hr0 hc0 c1
      go_enter Try.func28, Try.ntmps28
      go_wp2
      go_ret
      exact ⟨_, rfl, Kd.R_nil _ _ _ _ _, HB.out⟩
    | some ad =>
      clear hr0 hc0 c1
      go_enter Try.func28, Try.ntmps28
      go_wp2_with (first | ((with_reducible refine gate_dst (N := 5) rfl ?_); refine Kd.R_lit (Kd.int .i64) _ 2 ?hg (N := 5) ?hd (xs := ([] : List Int)) (inner := []) (ok := fun _ => True) (okp := fun _ => True) ?hr ?hp (fun _ hk => hk) trivial (Below.refl _ _) (Nat.le_refl _) (by simp) ?_; (case hd => rfl); (case hg => rfl); (case hr => first | (go_simp; done) | (go_simp; rfl)); (case hp => exact (Reps.none _ _)); intro v109 w3 ho4 hb hg_ hnew_; clear hg_ hnew_; have n_ := y2 (Kd.R_lower ho4 (below_size (zB))) (below_step (zB) hb); clear HB; obtain ⟨HO110, HB⟩ := n_; clear hb ho4) | ((with_reducible refine gate_builtin (b := .append) (xs := #[.tmp 5, .tmp 6]) rfl ?_); at_builtin; refine Kd.R_append_rows (Kd.int .i64) (w0 := w) w.heap.size rfl (.tmp 5) (.tmp 6) 24 2 (.int .i64 0) 8 rfl Try.underlying24 zk rfl (by decide) (by omega) v109 [] l0 _ _ _ (fun _ => True) (fun _ => False) rfl rfl ?aO ?aR (fun _ _ h => h) (fun _ h => h.elim) ?aF ?aB ?aS ?aL ?_; (case aR => repeat (first | exact (Kd.C_below HR0.out HB.out) | (with_reducible refine Kd.C_alloc ?_ _) | (with_reducible refine Kd.C_drewN ?_ _) | (with_reducible refine Kd.C_drew ?_))); (case aB => exact (zB)); (case aF => exact (fun _ _ => trivial)); (case aO => exact (zR HO110.out)); (case aS => exact (below_size (zB))); (case aL => have := LM.out; simp only [List.length_nil]; omega); intro v112 w5 ho hb hg hat; rw [List.nil_append] at ho; have n_ := y2 (hb) (ho); clear HB HO110; obtain ⟨HB, HO113⟩ := n_; clear ho hb hg hat))
      go_ret
      exact ⟨_, rfl, zR HO113.out, zB⟩
  · rw [if_neg c1] at h
    exact absurd h (by simp)
end Go.Proofs.Ytfmjckkgnieccaa.P
end
section
namespace Go.Proofs.Ytfmjckkgnieccaa.P
open Go.RowKit Go.Proofs.YtfmjckkgnieccaaW.PrintWords Go.Proofs.YtfmjckkgnieccaaW.PrintLast Go.Proofs.YtfmjckkgnieccaaW.PrintMore
attribute [local go_sem] max2_int min2_int max_two min_two max_three min_three max_four min_four   -- for this text's walks alone
set_option linter.unusedVariables false
set_option linter.unusedSimpArgs false
def impl_exchanged.f (l0 : List Int) (a1 : Int) (a2 : Int) : Option (List Int) := (slices_Clone_Sint64_int64.f l0).bind fun t101 => (if 0 ≤ a2 then (if a2 < (l0.length : Int) then (if 0 ≤ a1 then (if a1 < (l0.length : Int) then (if a1 < (t101.length : Int) then (if a2 < (t101.length : Int) then (some ((t101.set (a1 : Int).toNat (rd l0 a2)).set (a2 : Int).toNat (rd l0 a1))) else (none)) else (none)) else (none)) else (none)) else (none)) else (none))
def impl_exchanged.T2 : Bool × List (List Nat × List Nat) := (true, [([], []), ([], []), ([], []), ([], []), ([], []), ([], []), ([4, 5], [4, 5]), ([6], [6]), ([], []), ([], []), ([8, 9], [8, 9]), ([10], [10]), ([0, 1, 0, 1, 4, 5, 6, 7, 11], [0, 1]), ([12, 7, 0, 1, 4, 5, 6, 7, 11], [7, 12]), ([2, 3, 0, 1, 2, 3, 4, 5, 6, 7, 8, 9, 10, 11, 12, 13], [2, 3]), ([14, 11, 13, 0, 1, 2, 3, 4, 5, 6, 7, 8, 9, 10, 11, 12, 13], [11, 14])])
def impl_exchanged.B2 : List Nat := [0, 0, 0, 0, 0, 0, 48, 112, 0, 0, 768, 1792, 4083, 8179, 16383, 32767]
theorem impl_exchanged.tab2 : rtab .any (opsOf Try.f30 2) = impl_exchanged.T2 := by kernel_rfl
theorem impl_exchanged.bits2 : waitsOk impl_exchanged.T2.2 impl_exchanged.B2 = true := by kernel_rfl
set_option maxHeartbeats 8000000 in
set_option maxRecDepth 100000 in
theorem impl_exchanged.calls (A0 : Option Addr) (c0 : Nat) (l0 : List Int) (a1 : Int) (a2 : Int) (r : List Int) (w : World) (hr0 : Kd.C (Kd.int .i64) w A0 l0.length l0) (hc0 : l0.length ≤ c0) (h : impl_exchanged.f l0 a1 a2 = some r) :
    Calls Try.prog 30 #[.slice A0 l0.length c0, .int .i64 a1, .int .i64 a2] w fun e w' => ∃ v0_ : Value, e = .returned (v0_) ∧ Kd.R (Kd.int .i64) 2 w' w.heap.size (fun _ => True) v0_ r ∧ Below w.heap.size w w' := by
 have HR0 := Aside0.mk hr0
 have HC0 := Aside0.mk hc0
 clear hr0 hc0
 have HB := Aside0.mk (Below.refl w.heap.size w)
 have H : ((slices_Clone_Sint64_int64.f l0).bind fun t101 => (if 0 ≤ a2 then (if a2 < (l0.length : Int) then (if 0 ≤ a1 then (if a1 < (l0.length : Int) then (if a1 < (t101.length : Int) then (if a2 < (t101.length : Int) then (some ((t101.set (a1 : Int).toNat (rd l0 a2)).set (a2 : Int).toNat (rd l0 a1))) else (none)) else (none)) else (none)) else (none)) else (none)) else (none))) = some r := h
 clear h
 replace H := Option.bind_eq_some_iff.mp H
 obtain ⟨t101, A40, H⟩ := H
 replace H : (if 0 ≤ a2 then (if a2 < (l0.length : Int) then (if 0 ≤ a1 then (if a1 < (l0.length : Int) then (if a1 < (t101.length : Int) then (if a2 < (t101.length : Int) then (some ((t101.set (a1 : Int).toNat (rd l0 a2)).set (a2 : Int).toNat (rd l0 a1))) else (none)) else (none)) else (none)) else (none)) else (none)) else (none)) = some r := H
 have A4 := Aside0.mk A40
 clear A40
 by_cases c5 : 0 ≤ a2
 case neg => rw [if_neg c5] at H; exact absurd H (by simp)
 rw [if_pos c5] at H
 have c5b0 : decide (0 ≤ a2) = true := decide_eq_true c5
 clear c5
 by_cases c6 : a2 < (l0.length : Int)
 case neg => rw [if_neg c6] at H; exact absurd H (by simp)
 rw [if_pos c6] at H
 have c6b0 : decide (a2 < (l0.length : Int)) = true := decide_eq_true c6
 clear c6
 by_cases c7 : 0 ≤ a1
 case neg => rw [if_neg c7] at H; exact absurd H (by simp)
 rw [if_pos c7] at H
 have c7b0 : decide (0 ≤ a1) = true := decide_eq_true c7
 clear c7
 by_cases c8 : a1 < (l0.length : Int)
 case neg => rw [if_neg c8] at H; exact absurd H (by simp)
 rw [if_pos c8] at H
 have c8b0 : decide (a1 < (l0.length : Int)) = true := decide_eq_true c8
 clear c8
 by_cases c9 : a1 < (t101.length : Int)
 case neg => rw [if_neg c9] at H; exact absurd H (by simp)
 rw [if_pos c9] at H
 have c9b0 : decide (a1 < (t101.length : Int)) = true := decide_eq_true c9
 clear c9
 obtain ⟨y106, hy106⟩ : ∃ y_ : List Int, y_ = (t101.set (a1 : Int).toNat (rd l0 a2)) := ⟨_, rfl⟩
 replace H : (if a2 < (t101.length : Int) then (some (y106.set (a2 : Int).toNat (rd l0 a1))) else (none)) = some r := zH hy106
 have Ny106 := Aside0.mk hy106
 clear hy106
 by_cases c11 : a2 < (t101.length : Int)
 case neg => rw [if_neg c11] at H; exact absurd H (by simp)
 rw [if_pos c11] at H
 have c11b0 : decide (a2 < (t101.length : Int)) = true := decide_eq_true c11
 clear c11
 obtain ⟨y107, hy107⟩ : ∃ y_ : List Int, y_ = (y106.set (a2 : Int).toNat (rd l0 a1)) := ⟨_, rfl⟩
 replace H : (some y107) = some r := zH hy107
 have Ny107 := Aside0.mk hy107
 clear hy107
 obtain rfl := Option.some.inj H
 go_enter Try.func30, Try.ntmps30
 try go_wp2_with (first | ((with_reducible refine gate_callee (f := 28) rfl ?_); refine goesL_ (some 9) rfl rfl Try.func28 zk rfl #[.slice A0 l0.length c0] rfl zA ?_; (with_reducible refine (slices_Clone_Sint64_int64.calls _ _ l0 t101 _ ?side1 ?side2 A4.out).mono ?_); (case side1 => exact zC HR0.out); (case side2 => exact HC0.out); rintro e w13 ⟨v102, rfl, ho0, hb⟩; refine ⟨_, rfl, ?_⟩; have n_ := y2 (Kd.R_lower ho0 (below_size (zB))) (below_step (zB) hb); clear HB; obtain ⟨HO103, HB⟩ := n_; (try clear hb); (try clear hb2); (try clear hk); (try clear hi); (try clear ho0)))
 have n_ := y2 (Kd.R_drew HO103.out) (below_drew1 HB.out)
 clear HO103 HB
 obtain ⟨HO103, HB⟩ := n_
 have p104 : 0 ≤ (a2 : Int) := zD
 have q104 : a2 < (l0.length : Int) := zD
 obtain ⟨ad104, e104, hx104_0⟩ := Kd.at_int HR0.out a2 p104 q104
 have hw104_0 := hx104_0
 cases e104
 replace hx104_0 := (HB.out.cell (World.block_lt_of_cell? w _ hx104_0)).trans hx104_0
 replace p104 := eq_true p104
 replace q104 := eq_true q104
 have p105 : 0 ≤ (a1 : Int) := zD
 have q105 : a1 < (l0.length : Int) := zD
 obtain ⟨ad105, e105, hx105_0⟩ := Kd.at_int HR0.out a1 p105 q105
 have hw105_0 := hx105_0
 obtain rfl : ad104 = ad105 := (by injection e105)
 replace hx105_0 := (HB.out.cell (World.block_lt_of_cell? w _ hx105_0)).trans hx105_0
 replace p105 := eq_true p105
 replace q105 := eq_true q105
 have p10 : 0 ≤ (a1 : Int) := zD
 have q10 : (a1 : Int) < ((t101.length : Int) : Int) := zD
 obtain ⟨go10, co10, eo10, gb10, gl10, cl10, HG10⟩ := Kd.R_form HO103.out (by omega)
 (first | cases eo10 | (injection eo10 with ea_ en_ ec_; (first | subst ea_ | (injection ea_ with ea_; subst ea_)); subst ec_; clear en_))
 have GB10 := Aside0.mk gb10
 have GG10 := Aside0.mk HG10
 clear gb10 gl10 HG10
 obtain ⟨hx10_0, hf10_0⟩ := Kd.R_celln 0 HO103.out (a1 : Int) p10 q10
 replace p10 := eq_true p10
 replace q10 := eq_true q10
 have HP15 := Kd.R_putn HO103.out (a1 : Int) (rd l0 a2)
 rw [← Ny106.out] at HP15
 have HQ15 := Aside0.mk HP15
 clear HP15
 have p12 : 0 ≤ (a2 : Int) := zD
 have q12 : (a2 : Int) < ((t101.length : Int) : Int) := zD
 obtain ⟨hx12_0, hf12_0⟩ := Kd.R_celln 0 HQ15.out (a2 : Int) p12 q12
 replace p12 := eq_true p12
 replace q12 := eq_true q12
 have HP16 := Kd.R_putn HQ15.out (a2 : Int) (rd l0 a1)
 rw [← Ny107.out] at HP16
 have HQ16 := Aside0.mk HP16
 clear HP16
 refine start_ (n := 16) (S := fun w' => w'.cell? (ad104.add (a2).toNat) = some (.int .i64 (rd l0 a2)) ∧ w'.cell? (ad104.add (a1).toNat) = some (.int .i64 (rd l0 a1))) (ds := [13, 15]) #[false,false,false,false,false,false,false,false,false,false,false,false,false,false,false,false] zk rfl rfl ⟨((HB.out.cell (World.block_lt_of_cell? w _ hw104_0)).trans hw104_0), ((HB.out.cell (World.block_lt_of_cell? w _ hw105_0)).trans hw105_0)⟩ (fun hHeld => ?_); refine with_tabW impl_exchanged.tab2 impl_exchanged.bits2 (fun HT_ HW_ => ?_)
 generalize w13.drew = w14 at HO103 HB GG10 HQ15 HQ16 hf10_0 hf12_0 hx104_0 hx105_0 hx10_0 hx12_0 hHeld ⊢
 refine pure_ (i := 0) (N := some 10) (v := ?_) (a' := ?_) #[true,false,false,false,false,false,false,false,false,false,false,false,false,false,false,false] rfl rfl (any_of HT_.out zk) (fun _ _ _ h => h) (Or.inl ⟨by rfl, ?_⟩) ?_ ?_
 rotate_left; exact zp; rotate_left; exact zq
 refine pure_ (i := 1) (N := some 11) (v := ?_) (a' := ?_) #[true,true,false,false,false,false,false,false,false,false,false,false,false,false,false,false] rfl rfl (any_of HT_.out zk) (fun _ _ _ h => h) (Or.inl ⟨by rfl, ?_⟩) ?_ ?_
 rotate_left; exact zp; rotate_left; exact zq
 refine pure_ (i := 2) (N := some 12) (v := ?_) (a' := ?_) #[true,true,true,false,false,false,false,false,false,false,false,false,false,false,false,false] rfl rfl (any_of HT_.out zk) (fun _ _ _ h => h) (Or.inl ⟨by rfl, ?_⟩) ?_ ?_
 rotate_left; exact zp; rotate_left; exact zq
 refine pure_ (i := 3) (N := some 13) (v := ?_) (a' := ?_) #[true,true,true,true,false,false,false,false,false,false,false,false,false,false,false,false] rfl rfl (any_of HT_.out zk) (fun _ _ _ h => h) (Or.inl ⟨by rfl, ?_⟩) ?_ ?_
 rotate_left; exact zp; rotate_left; exact zq
 refine pure_ (i := 4) (N := some 14) (v := ?_) (a' := ?_) #[true,true,true,true,true,false,false,false,false,false,false,false,false,false,false,false] rfl rfl (any_of HT_.out zk) (fun _ _ _ h => h) (Or.inl ⟨by rfl, ?_⟩) ?_ ?_
 rotate_left; exact zp; rotate_left; exact zq
 refine pure_ (i := 5) (N := some 15) (v := ?_) (a' := ?_) #[true,true,true,true,true,true,false,false,false,false,false,false,false,false,false,false] rfl rfl (any_of HT_.out zk) (fun _ _ _ h => h) (Or.inl ⟨by rfl, ?_⟩) ?_ ?_
 rotate_left; exact zp; rotate_left; exact zq
 refine pure_ (i := 6) (N := some 16) (v := ?_) (a' := ?_) #[true,true,true,true,true,true,true,false,false,false,false,false,false,false,false,false] rfl rfl (any_of HT_.out zk) (fun _ _ _ h => h) (Or.inl ⟨by rfl, ?_⟩) ?_ ?_
 rotate_left; exact zp; rotate_left; exact zq
 refine pure_ (i := 8) (N := some 18) (v := ?_) (a' := ?_) #[true,true,true,true,true,true,true,false,true,false,false,false,false,false,false,false] rfl rfl (any_of HT_.out zk) (fun _ _ _ h => h) (Or.inl ⟨by rfl, ?_⟩) ?_ ?_
 rotate_left; exact zp; rotate_left; exact zq
 refine pure_ (i := 9) (N := some 19) (v := ?_) (a' := ?_) #[true,true,true,true,true,true,true,false,true,true,false,false,false,false,false,false] rfl rfl (any_of HT_.out zk) (fun _ _ _ h => h) (Or.inl ⟨by rfl, ?_⟩) ?_ ?_
 rotate_left; exact zp; rotate_left; exact zq
 refine pure_ (i := 10) (N := some 20) (v := ?_) (a' := ?_) #[true,true,true,true,true,true,true,false,true,true,true,false,false,false,false,false] rfl rfl (any_of HT_.out zk) (fun _ _ _ h => h) (Or.inl ⟨by rfl, ?_⟩) ?_ ?_
 rotate_left; exact zp; rotate_left; exact zq
 refine take_ (i := 7) (N := some 17) (v := ?_) (a' := ?_) #[true,true,true,true,true,true,true,true,true,true,true,false,false,false,false,false] rfl rfl (take_ofW HT_.out HW_.out zk) (fun _ _ _ h => h) (Or.inl ⟨by rfl, ?_⟩) hHeld ?_ ?_
 rotate_left
 ·
  rintro w' ⟨s0, s1⟩
  go_simp
  with_reducible rfl
 rotate_left
 ·
  simp only [Act.put, List.setIfInBounds_toArray, List.set_cons_zero, List.set_cons_succ, i64_w, i32_w]
  rfl
 refine take_ (i := 11) (N := some 21) (v := ?_) (a' := ?_) #[true,true,true,true,true,true,true,true,true,true,true,true,false,false,false,false] rfl rfl (take_ofW HT_.out HW_.out zk) (fun _ _ _ h => h) (Or.inl ⟨by rfl, ?_⟩) hHeld ?_ ?_
 rotate_left
 ·
  rintro w' ⟨s0, s1⟩
  go_simp
  with_reducible rfl
 rotate_left
 ·
  simp only [Act.put, List.setIfInBounds_toArray, List.set_cons_zero, List.set_cons_succ, i64_w, i32_w]
  rfl
 refine pure_ (i := 12) (N := some 22) (v := ?_) (a' := ?_) #[true,true,true,true,true,true,true,true,true,true,true,true,true,false,false,false] rfl rfl (any_of HT_.out zk) (fun _ _ _ h => h) (Or.inl ⟨by rfl, ?_⟩) ?_ ?_
 rotate_left; exact zp; rotate_left; exact zq
 refine last_ (i := 13) (N := none) #[true,true,true,true,true,true,true,true,true,true,true,true,true,true,false,false] rfl rfl (one_of HT_.out zk) (by decide) (fun K hK => ?_)
 refine skip_ (w1 := ?_) (by rfl) rfl ?_ ?_
 rotate_left
 ·
  go_simp
  rfl
 refine hK.out _ _ ?_
 clear hK K
 refine pure_ (i := 14) (N := some 23) (v := ?_) (a' := ?_) #[true,true,true,true,true,true,true,true,true,true,true,true,true,true,true,false] rfl rfl (any_of HT_.out zk) (fun _ _ _ h => h) (Or.inl ⟨by rfl, ?_⟩) ?_ ?_
 rotate_left; exact zp; rotate_left; exact zq
 refine last_ (i := 15) (N := none) #[true,true,true,true,true,true,true,true,true,true,true,true,true,true,true,true] rfl rfl (one_of HT_.out zk) (by decide) (fun K hK => ?_)
 refine skip_ (w1 := ?_) (by rfl) rfl ?_ ?_
 rotate_left
 ·
  go_simp
  rfl
 refine hK.out _ _ ?_
 clear hK K
 refine done_ (done_of HT_.out zk) ?_
 try go_wp2
 go_ret
 exact ⟨_, zE, zR HQ16.out, zB⟩
end Go.Proofs.Ytfmjckkgnieccaa.P
end
section
namespace Go.Proofs.Ytfmjckkgnieccaa.P
open Go.RowKit Go.Proofs.YtfmjckkgnieccaaW.PrintWords Go.Proofs.YtfmjckkgnieccaaW.PrintLast Go.Proofs.YtfmjckkgnieccaaW.PrintMore
attribute [local go_sem] max2_int min2_int max_two min_two max_three min_three max_four min_four   -- for this text's walks alone
set_option linter.unusedVariables false
set_option linter.unusedSimpArgs false
theorem fvD_squares_1 (B : Nat) : FnD 62 #[.pointer (some ⟨B, 0, none⟩)] B sqD := by
  intro W d a hc
  show Calls Try.prog 62 #[.int .i64 d, .pointer (some ⟨B, 0, none⟩)] W _
  unfold sqD
  have HC := Aside0.mk hc
  have hc0 : W.cell? ⟨B, 0, none⟩ = some (.int .i64 a) := blk_cell hc 0
  have hf0 : W.frozen? ⟨B, 0, none⟩ = false := blk_frozen hc 0
  clear hc
  go_enter Try.func62, Try.ntmps62
  go_wp2
  go_end0
  exact ⟨rfl, blk_put HC.out 0 _ rfl, Kept.setCell (S := fun k_ => k_ = B) (p := ⟨B, 0, none⟩) (show Kept W _ (fun k_ => k_ = B) from Kept.refl W _) (.inl rfl) _, fun w0 hb hl => below_set hb hl⟩
def impl_squares.f (k : Nat) (l0 : List Int) : Option Int := (impl_sharesOf.f k l0).bind fun s => (difs.f sqD k l0 s 0)
theorem impl_squares.mono : ∀ a0 k, LeO (impl_squares.f k a0) (impl_squares.f (k + 1) a0) := by
  intro a0 k
  unfold impl_squares.f
  exact LeO.bind (impl_sharesOf.mono _ _) (fun _ => difs.mono _ _ _ _ _)
set_option maxHeartbeats 8000000 in
set_option maxRecDepth 100000 in
theorem impl_squares.calls (k : Nat) (A0 : Option Addr) (c0 : Nat) (l0 : List Int) (r : Int) (w : World) (hr0 : Kd.C (Kd.int .i64) w A0 l0.length l0) (hc0 : l0.length ≤ c0) (h : impl_squares.f k l0 = some r) :
    Calls Try.prog 35 #[.slice A0 l0.length c0] w fun e w' => e = .returned (.int .i64 r) ∧ Below w.heap.size w w' := by
  obtain ⟨s, e1, e2⟩ := Option.bind_eq_some_iff.mp h
  have eg : ∀ args w, (callFunc 62 args).run Try.prog w = .ok (.enter 62 args) w := enters_of Try.func62 zk rfl
  have HR0 := Aside0.mk hr0
  have HC0 := Aside0.mk hc0
  have E1 := Aside0.mk e1
  have E2 := Aside0.mk e2
  have EG := Aside0.mk eg
  clear hr0 hc0 e1 e2 h eg
  have HB := Aside0.mk (below_alloc (Below.refl w.heap.size w) (.cells #[.int .i64 0] 2))
  have HS : Aside0 ((w.alloc (.cells #[.int .i64 0] 2)).heap.size = w.heap.size + 1) := ⟨by simp⟩
  have HCE : Aside0 (CellB (w.alloc (.cells #[.int .i64 0] 2)) w.heap.size 0) := ⟨blk_new _ _⟩
  go_enter Try.func35, Try.ntmps35
  go_wp2_with (first
    | (go_at_call 49; refine (impl_sharesOf.calls k A0 c0 l0 s _ (Kd.C_below HR0.out HB.out) HC0.out E1.out).mono ?_; rintro e w1 ⟨v1, rfl, hR, hb⟩; obtain ⟨A1, c1, rfl, hl1, _⟩ := Kd.R_reads hR; have HL1 := Aside0.mk hl1; have HCS := Aside0.mk (Kd.C_kept_own (S := fun k_ => k_ = w.heap.size) (Kd.R_mono (Kd.R_bound hR) (ok' := fun k_ => k_ ≠ w.heap.size) (fun k_ hk => by have h2 := hk.2.1; rw [HS.out] at h2; omega)) (fun k_ h_ => h_)); have HCA := Aside0.mk (Kd.C_kept_came (S := fun k_ => k_ = w.heap.size) (Kd.heap_int .i64) HR0.out (below_step HB.out hb) (fun k_ h_ => by omega)); have n1_ := Aside0.mk (show CellB w1 w.heap.size 0 from blk_below HCE.out hb); have n0_ := Aside0.mk (below_step HB.out hb); clear HB HCE hb hR hl1; have HB := n0_; have HCE := n1_; clear n0_ n1_)
    | (go_at_call 48; refine (fvD_differences k _ _ EG.out sqD w.heap.size (fvD_squares_1 w.heap.size) A0 c0 l0 A1 c1 s 0 r w _ HB.out (Nat.le_refl _) HCA.out HC0.out HCS.out HL1.out HCE.out E2.out).mono ?_; rintro e w2 ⟨rfl, hce, hk, hb⟩; have hcc := blk_cell hce 0; (try simp only [List.getElem?_toArray, List.getElem?_cons_zero] at hcc); have HB2 := Aside0.mk hb; clear hb hk hce))
  go_ret
  exact ⟨rfl, HB2.out⟩
end Go.Proofs.Ytfmjckkgnieccaa.P
end
section
namespace Go.Proofs.Ytfmjckkgnieccaa.P
open Go.RowKit Go.Proofs.YtfmjckkgnieccaaW.PrintWords Go.Proofs.YtfmjckkgnieccaaW.PrintLast Go.Proofs.YtfmjckkgnieccaaW.PrintMore
attribute [local go_sem] max2_int min2_int max_two min_two max_three min_three max_four min_four   -- for this text's walks alone
set_option linter.unusedVariables false
set_option linter.unusedSimpArgs false
mutual
def impl_bestExchange.l0 : Nat → List Int → Int → Int → Int → Bool → Int → Int → Option (Int × Int × Bool)
  | 0, _, _, _, _, _, _, _ => none
  | k + 1, x0, x5, x6, x7, x8, x15, x16 => if x16 < x15 then (impl_bestExchange.l1 k x0 x5 x6 x7 x8 x16 (wrap64 (x16 + 1)) x15 x16) else (some (x6, x7, x8))
def impl_bestExchange.l1 : Nat → List Int → Int → Int → Int → Bool → Int → Int → Int → Int → Option (Int × Int × Bool)
  | 0, _, _, _, _, _, _, _, _, _ => none
  | k + 1, x0, x5, x6, x7, x8, x9, x10, x15, x16 => (impl_length_int64.f x0).bind fun t103 => (if x10 < t103 then ((impl_exchanged.f x0 x9 x10).bind fun t104 => ((impl_squares.f k t104).bind fun t107 => (if t107 < x5 then (impl_bestExchange.l1 k x0 t107 x9 x10 true x9 (wrap64 (x10 + 1)) x15 x16) else (impl_bestExchange.l1 k x0 x5 x6 x7 x8 x9 (wrap64 (x10 + 1)) x15 x16)))) else (impl_bestExchange.l0 k x0 x5 x6 x7 x8 x15 (wrap64 (x16 + 1))))
end
def impl_bestExchange.f (k : Nat) (l0 : List Int) : Option (Int × Int × Bool) := (impl_squares.f k l0).bind fun t101 => ((impl_length_int64.f l0).bind fun t102 => (impl_bestExchange.l0 k l0 t101 0 0 false t102 0))
theorem impl_bestExchange.mono_l : ∀ k, (∀ y0 y1 y2 y3 y4 y5 y6, LeO (impl_bestExchange.l0 k y0 y1 y2 y3 y4 y5 y6) (impl_bestExchange.l0 (k + 1) y0 y1 y2 y3 y4 y5 y6)) ∧ (∀ y0 y1 y2 y3 y4 y5 y6 y7 y8, LeO (impl_bestExchange.l1 k y0 y1 y2 y3 y4 y5 y6 y7 y8) (impl_bestExchange.l1 (k + 1) y0 y1 y2 y3 y4 y5 y6 y7 y8))
  | 0 => ⟨fun _ _ _ _ _ _ _ r h => by simp [impl_bestExchange.l0] at h, fun _ _ _ _ _ _ _ _ _ r h => by simp [impl_bestExchange.l1] at h⟩
  | k + 1 => by
    obtain ⟨ih0, ih1⟩ := impl_bestExchange.mono_l k
    refine ⟨?_, ?_⟩ <;> intros <;> (first | unfold impl_bestExchange.l0 | unfold impl_bestExchange.l1) <;> repeat' first | (with_reducible exact ih0 _ _ _ _ _ _ _) | (with_reducible exact ih1 _ _ _ _ _ _ _ _ _) | (with_reducible exact impl_squares.mono _ _) | (with_reducible exact LeO.refl _) | (with_reducible exact LeO.none _) | (with_reducible refine LeO.ite ?_ ?_) | (with_reducible refine LeO.bind ?_ (fun _ => ?_)) | exact ih0 _ _ _ _ _ _ _ | exact ih1 _ _ _ _ _ _ _ _ _ | exact impl_squares.mono _ _ | exact LeO.none _ | refine LeO.ite ?_ ?_ | refine LeO.bind ?_ (fun _ => ?_)
theorem impl_bestExchange.mono : ∀ a0 k, LeO (impl_bestExchange.f k a0) (impl_bestExchange.f (k + 1) a0) := by
  intro a0 k
  obtain ⟨ih0, ih1⟩ := impl_bestExchange.mono_l k
  unfold impl_bestExchange.f
  repeat' first | (with_reducible exact ih0 _ _ _ _ _ _ _) | (with_reducible exact ih1 _ _ _ _ _ _ _ _ _) | (with_reducible exact impl_squares.mono _ _) | (with_reducible exact LeO.refl _) | (with_reducible exact LeO.none _) | (with_reducible refine LeO.ite ?_ ?_) | (with_reducible refine LeO.bind ?_ (fun _ => ?_)) | exact ih0 _ _ _ _ _ _ _ | exact ih1 _ _ _ _ _ _ _ _ _ | exact impl_squares.mono _ _ | exact LeO.none _ | refine LeO.ite ?_ ?_ | refine LeO.bind ?_ (fun _ => ?_)
set_option maxHeartbeats 8000000 in
set_option maxRecDepth 100000 in
theorem impl_bestExchange.calls (k : Nat) (A0 : Option Addr) (c0 : Nat) (l0 : List Int) (r1 : Int) (r2 : Int) (r3 : Bool) (w : World) (hr0 : Kd.C (Kd.int .i64) w A0 l0.length l0) (hc0 : l0.length ≤ c0) (h : impl_bestExchange.f k l0 = some (r1, r2, r3)) :
    Calls Try.prog 29 #[.slice A0 l0.length c0] w fun e w' => e = .returned (.tuple #[.int .i64 r1, .int .i64 r2, .bool r3]) ∧ Below w.heap.size w w' := by
 have HR0 := Aside0.mk hr0
 have HC0 := Aside0.mk hc0
 clear hr0 hc0
 have HB := Aside0.mk (Below.refl w.heap.size w)
 have H : ((impl_squares.f k l0).bind fun t101 => ((impl_length_int64.f l0).bind fun t102 => (impl_bestExchange.l0 k l0 t101 0 0 false t102 0))) = some (r1, r2, r3) := h
 clear h
 replace H := Option.bind_eq_some_iff.mp H
 obtain ⟨t101, A20, H⟩ := H
 replace H : ((impl_length_int64.f l0).bind fun t102 => (impl_bestExchange.l0 k l0 t101 0 0 false t102 0)) = some (r1, r2, r3) := H
 have A2 := Aside0.mk A20
 clear A20
 replace H := Option.bind_eq_some_iff.mp H
 obtain ⟨t102, A30, H⟩ := H
 replace H : (impl_bestExchange.l0 k l0 t101 0 0 false t102 0) = some (r1, r2, r3) := H
 have A3 := Aside0.mk A30
 clear A30
 have H' := Aside0.mk H
 clear H
 go_enter Try.func29, Try.ntmps29
 go_wp2_with (first | ((with_reducible refine gate_callee (f := 35) rfl ?_); refine goesL_ (some 13) rfl rfl Try.func35 zk rfl #[.slice A0 l0.length c0] rfl zA ?_; (with_reducible refine (impl_squares.calls k _ _ l0 t101 _ ?side1 ?side2 A2.out).mono ?_); (case side1 => exact zC HR0.out); (case side2 => exact HC0.out); rintro e w4 ⟨rfl, hb⟩; refine ⟨_, rfl, ?_⟩; replace HB := Aside0.mk (below_step (zB) hb); (try clear hb); (try clear hb2); (try clear hk); (try clear hi)) | ((with_reducible refine gate_callee (f := 39) rfl ?_); refine goesL_ (some 15) rfl rfl Try.func39 zk rfl #[.slice A0 l0.length c0] rfl zA ?_; (with_reducible refine (impl_length_int64.calls _ _ l0 t102 _ ?side1 ?side2 A3.out).mono ?_); (case side1 => exact zC (Kd.C_below HR0.out HB.out)); (case side2 => exact HC0.out); rintro e w' ⟨rfl, ⟨nd, rfl⟩⟩; refine ⟨_, rfl, ?_⟩))
 go_loopg [5, 6, 7, 8, 16] k (fun kq v5 v6 v7 v8 v16 w' => ∃ (x5_1 : Int) (x6_1 : Int) (x7_1 : Int) (x8_1 : Bool) (x16_1 : Int), v5 = .int .i64 x5_1 ∧ v6 = .int .i64 x6_1 ∧ v7 = .int .i64 x7_1 ∧ v8 = .bool x8_1 ∧ v16 = .int .i64 x16_1 ∧ Aside0 (impl_bestExchange.l0 kq l0 x5_1 x6_1 x7_1 x8_1 t102 x16_1 = some (r1, r2, r3)) ∧ Aside0 (kq ≤ k) ∧ Aside0 (Below w.heap.size w w'))
 case atStart => exact ⟨(t101), (0), (0), (false), (0), zF, zF, zF, zF, zF, H', ⟨Nat.le_refl _⟩, ⟨zB⟩⟩
 clear H'
 obtain ⟨x5_1, x6_1, x7_1, x8_1, x16_1, rfl, rfl, rfl, rfl, rfl, HA, HK1, HB⟩ := hrel
 cases gk with
 | zero => exact absurd HA.out (by simp [impl_bestExchange.l0])
 | succ k1 =>
   have H := HA.out
   clear HA
   simp only [impl_bestExchange.l0] at H
   by_cases c5 : x16_1 < t102
   · rw [if_pos c5] at H
     have c5b0 : decide (x16_1 < t102) = true := decide_eq_true c5
     clear c5
     have H' := Aside0.mk H
     clear H
     go_wp2
     go_loopg [5, 6, 7, 8, 10] k1 (fun kq v5 v6 v7 v8 v10 w' => ∃ (x5_2 : Int) (x6_2 : Int) (x7_2 : Int) (x8_2 : Bool) (x10_2 : Int), v5 = .int .i64 x5_2 ∧ v6 = .int .i64 x6_2 ∧ v7 = .int .i64 x7_2 ∧ v8 = .bool x8_2 ∧ v10 = .int .i64 x10_2 ∧ Aside0 (impl_bestExchange.l1 kq l0 x5_2 x6_2 x7_2 x8_2 x16_1 x10_2 t102 x16_1 = some (r1, r2, r3)) ∧ Aside0 (kq ≤ k1) ∧ Aside0 (Below w.heap.size w w'))
     case atStart => exact ⟨(x5_1), (x6_1), (x7_1), (x8_1), (wrap64 (x16_1 + 1)), zF, zF, zF, zF, zF, H', ⟨Nat.le_refl _⟩, ⟨zB⟩⟩
     case round =>
       clear H'
       try clear c5
       try clear c5b0
       obtain ⟨x5_2, x6_2, x7_2, x8_2, x10_2, rfl, rfl, rfl, rfl, rfl, HA, HK2, HB⟩ := hrel
       cases gk with
       | zero => exact absurd HA.out (by simp [impl_bestExchange.l1])
       | succ k2 =>
         have H := HA.out
         clear HA
         simp only [impl_bestExchange.l1] at H
         replace H := Option.bind_eq_some_iff.mp H
         obtain ⟨t103, A60, H⟩ := H
         replace H : (if x10_2 < t103 then ((impl_exchanged.f l0 x16_1 x10_2).bind fun t104 => ((impl_squares.f k2 t104).bind fun t107 => (if t107 < x5_2 then (impl_bestExchange.l1 k2 l0 t107 x16_1 x10_2 true x16_1 (wrap64 (x10_2 + 1)) t102 x16_1) else (impl_bestExchange.l1 k2 l0 x5_2 x6_2 x7_2 x8_2 x16_1 (wrap64 (x10_2 + 1)) t102 x16_1)))) else (impl_bestExchange.l0 k2 l0 x5_2 x6_2 x7_2 x8_2 t102 (wrap64 (x16_1 + 1)))) = some (r1, r2, r3) := H
         have A6 := Aside0.mk A60
         clear A60
         by_cases c7 : x10_2 < t103
         · rw [if_pos c7] at H
           have c7b0 : decide (x10_2 < t103) = true := decide_eq_true c7
           clear c7
           replace H := Option.bind_eq_some_iff.mp H
           obtain ⟨t104, A80, H⟩ := H
           replace H : ((impl_squares.f k2 t104).bind fun t107 => (if t107 < x5_2 then (impl_bestExchange.l1 k2 l0 t107 x16_1 x10_2 true x16_1 (wrap64 (x10_2 + 1)) t102 x16_1) else (impl_bestExchange.l1 k2 l0 x5_2 x6_2 x7_2 x8_2 x16_1 (wrap64 (x10_2 + 1)) t102 x16_1))) = some (r1, r2, r3) := H
           have A8 := Aside0.mk A80
           clear A80
           replace H := Option.bind_eq_some_iff.mp H
           obtain ⟨t107, A90, H⟩ := H
           replace H : (if t107 < x5_2 then (impl_bestExchange.l1 k2 l0 t107 x16_1 x10_2 true x16_1 (wrap64 (x10_2 + 1)) t102 x16_1) else (impl_bestExchange.l1 k2 l0 x5_2 x6_2 x7_2 x8_2 x16_1 (wrap64 (x10_2 + 1)) t102 x16_1)) = some (r1, r2, r3) := H
           have A9 := Aside0.mk A90
           clear A90
           by_cases c10 : t107 < x5_2
           · rw [if_pos c10] at H
             have c10b0 : decide (t107 < x5_2) = true := decide_eq_true c10
             clear c10
             have H' := Aside0.mk H
             clear H
             go_wp2_with (first | ((with_reducible refine gate_callee (f := 39) rfl ?_); refine goesL_ (some 23) rfl rfl Try.func39 zk rfl #[.slice A0 l0.length c0] rfl zA ?_; (with_reducible refine (impl_length_int64.calls _ _ l0 t103 _ ?side1 ?side2 A6.out).mono ?_); (case side1 => exact zC (Kd.C_below HR0.out HB.out)); (case side2 => exact HC0.out); rintro e w' ⟨rfl, ⟨nd, rfl⟩⟩; refine ⟨_, rfl, ?_⟩) | ((with_reducible refine gate_callee (f := 30) rfl ?_); refine goesL_ (some 30) rfl rfl Try.func30 zk rfl #[.slice A0 l0.length c0, .int .i64 x16_1, .int .i64 x10_2] rfl zA ?_; (with_reducible refine (impl_exchanged.calls _ _ l0 x16_1 x10_2 t104 _ ?side1 ?side2 A8.out).mono ?_); (case side1 => exact zC (Kd.C_below HR0.out (zB))); (case side2 => exact HC0.out); rintro e w11 ⟨v105, rfl, ho0, hb⟩; refine ⟨_, rfl, ?_⟩; have n_ := y2 (Kd.R_lower ho0 (below_size (zB))) (below_step (zB) hb); clear HB; obtain ⟨HO106, HB⟩ := n_; (try clear hb); (try clear hb2); (try clear hk); (try clear hi); (try clear ho0); obtain ⟨Ao12, co12, eo12⟩ := Kd.R_slice HO106.out; subst eo12) | ((with_reducible refine gate_callee (f := 35) rfl ?_); refine goesL_ (some 31) rfl rfl Try.func35 zk rfl #[.slice Ao12 t104.length co12] rfl zA ?_; (with_reducible refine (impl_squares.calls k2 _ _ t104 t107 _ ?side1 ?side2 A9.out).mono ?_); (case side1 => exact zC (Kd.R_reads' HO106.out).2.2); (case side2 => exact (Kd.R_reads' HO106.out).2.1); rintro e w13 ⟨rfl, hb⟩; refine ⟨_, rfl, ?_⟩; have n_ := y2 (Kd.R_below (zR HO106.out) hb) (below_step (zB) hb); clear HO106 HB; obtain ⟨HO106, HB⟩ := n_; (try clear hb); (try clear hb2); (try clear hk); (try clear hi)))
             go_roundg k2
             case measure => have := HK1.out; have := HK2.out; omega
             case rel => exact ⟨(t107), (x16_1), (x10_2), (true), (wrap64 (x10_2 + 1)), zF, zF, zF, zF, zF, H', ⟨by have := HK1.out; have := HK2.out; omega⟩, ⟨zB⟩⟩
           · rw [if_neg c10] at H
             have c10b0 : decide (t107 < x5_2) = false := decide_eq_false c10
             clear c10
             have H' := Aside0.mk H
             clear H
             go_wp2_with (first | ((with_reducible refine gate_callee (f := 39) rfl ?_); refine goesL_ (some 23) rfl rfl Try.func39 zk rfl #[.slice A0 l0.length c0] rfl zA ?_; (with_reducible refine (impl_length_int64.calls _ _ l0 t103 _ ?side1 ?side2 A6.out).mono ?_); (case side1 => exact zC (Kd.C_below HR0.out HB.out)); (case side2 => exact HC0.out); rintro e w' ⟨rfl, ⟨nd, rfl⟩⟩; refine ⟨_, rfl, ?_⟩) | ((with_reducible refine gate_callee (f := 30) rfl ?_); refine goesL_ (some 30) rfl rfl Try.func30 zk rfl #[.slice A0 l0.length c0, .int .i64 x16_1, .int .i64 x10_2] rfl zA ?_; (with_reducible refine (impl_exchanged.calls _ _ l0 x16_1 x10_2 t104 _ ?side1 ?side2 A8.out).mono ?_); (case side1 => exact zC (Kd.C_below HR0.out (zB))); (case side2 => exact HC0.out); rintro e w14 ⟨v105, rfl, ho0, hb⟩; refine ⟨_, rfl, ?_⟩; have n_ := y2 (Kd.R_lower ho0 (below_size (zB))) (below_step (zB) hb); clear HB; obtain ⟨HO106, HB⟩ := n_; (try clear hb); (try clear hb2); (try clear hk); (try clear hi); (try clear ho0); obtain ⟨Ao15, co15, eo15⟩ := Kd.R_slice HO106.out; subst eo15) | ((with_reducible refine gate_callee (f := 35) rfl ?_); refine goesL_ (some 31) rfl rfl Try.func35 zk rfl #[.slice Ao15 t104.length co15] rfl zA ?_; (with_reducible refine (impl_squares.calls k2 _ _ t104 t107 _ ?side1 ?side2 A9.out).mono ?_); (case side1 => exact zC (Kd.R_reads' HO106.out).2.2); (case side2 => exact (Kd.R_reads' HO106.out).2.1); rintro e w16 ⟨rfl, hb⟩; refine ⟨_, rfl, ?_⟩; have n_ := y2 (Kd.R_below (zR HO106.out) hb) (below_step (zB) hb); clear HO106 HB; obtain ⟨HO106, HB⟩ := n_; (try clear hb); (try clear hb2); (try clear hk); (try clear hi)))
             go_roundg k2
             case measure => have := HK1.out; have := HK2.out; omega
             case rel => exact ⟨(x5_2), (x6_2), (x7_2), (x8_2), (wrap64 (x10_2 + 1)), zF, zF, zF, zF, zF, H', ⟨by have := HK1.out; have := HK2.out; omega⟩, ⟨zB⟩⟩
         · rw [if_neg c7] at H
           have c7b0 : decide (x10_2 < t103) = false := decide_eq_false c7
           clear c7
           have H' := Aside0.mk H
           clear H
           go_wp2_with (first | ((with_reducible refine gate_callee (f := 39) rfl ?_); refine goesL_ (some 23) rfl rfl Try.func39 zk rfl #[.slice A0 l0.length c0] rfl zA ?_; (with_reducible refine (impl_length_int64.calls _ _ l0 t103 _ ?side1 ?side2 A6.out).mono ?_); (case side1 => exact zC (Kd.C_below HR0.out HB.out)); (case side2 => exact HC0.out); rintro e w' ⟨rfl, ⟨nd, rfl⟩⟩; refine ⟨_, rfl, ?_⟩))
           go_roundg k2
           case measure => have := HK1.out; have := HK2.out; omega
           case rel => exact ⟨(x5_2), (x6_2), (x7_2), (x8_2), (wrap64 (x16_1 + 1)), zF, zF, zF, zF, zF, H', ⟨by have := HK1.out; have := HK2.out; omega⟩, ⟨zB⟩⟩
   · rw [if_neg c5] at H
     have c5b0 : decide (x16_1 < t102) = false := decide_eq_false c5
     clear c5
     simp only [Option.some.injEq, Prod.mk.injEq] at H
     obtain ⟨rfl, rfl, rfl⟩ := H
     go_wp2
     go_ret3
     exact ⟨zE, zB⟩
end Go.Proofs.Ytfmjckkgnieccaa.P
end
section
namespace Go.Proofs.Ytfmjckkgnieccaa.P
open Go.RowKit Go.Proofs.YtfmjckkgnieccaaW.PrintWords Go.Proofs.YtfmjckkgnieccaaW.PrintLast Go.Proofs.YtfmjckkgnieccaaW.PrintMore
attribute [local go_sem] max2_int min2_int max_two min_two max_three min_three max_four min_four   -- for this text's walks alone
set_option linter.unusedVariables false
set_option linter.unusedSimpArgs false
def impl_SmoothTurns.l0 : Nat → List Int → Int → Int → Bool → Option (List Int × Int)
  | 0, _, _, _, _ => none
  | k + 1, x5, x6, x7, x8 => if x8 = true then ((impl_exchanged.f x5 x6 x7).bind fun t108 => ((impl_bestExchange.f k t108).bind fun bt111 => (impl_SmoothTurns.l0 k t108 bt111.1 bt111.2.1 bt111.2.2))) else (some (x5, 0))
def impl_SmoothTurns.f (k : Nat) (l0 : List Int) : Option (List Int × Int) := (impl_levelCode.f k l0).bind fun t101 => (if t101 = 0 then ((slices_Clone_Sint64_int64.f l0).bind fun t102 => ((impl_bestExchange.f k t102).bind fun bt105 => (impl_SmoothTurns.l0 k t102 bt105.1 bt105.2.1 bt105.2.2))) else (some (([] : List Int), t101)))
theorem impl_SmoothTurns.mono_l : ∀ k, (∀ y0 y1 y2 y3, LeO (impl_SmoothTurns.l0 k y0 y1 y2 y3) (impl_SmoothTurns.l0 (k + 1) y0 y1 y2 y3))
  | 0 => fun _ _ _ _ r h => by simp [impl_SmoothTurns.l0] at h
  | k + 1 => by
    have ih0 := impl_SmoothTurns.mono_l k
    · intro y0 y1 y2 y3
      unfold impl_SmoothTurns.l0
      repeat' first | (with_reducible exact ih0 _ _ _ _) | (with_reducible exact impl_bestExchange.mono _ _) | (with_reducible exact impl_levelCode.mono _ _) | (with_reducible exact LeO.refl _) | (with_reducible exact LeO.none _) | (with_reducible refine LeO.ite ?_ ?_) | (with_reducible refine LeO.bind ?_ (fun _ => ?_)) | exact ih0 _ _ _ _ | exact impl_bestExchange.mono _ _ | exact impl_levelCode.mono _ _ | exact LeO.none _ | refine LeO.ite ?_ ?_ | refine LeO.bind ?_ (fun _ => ?_)
theorem impl_SmoothTurns.mono : ∀ a0 k, LeO (impl_SmoothTurns.f k a0) (impl_SmoothTurns.f (k + 1) a0) := by
  intro a0 k
  have ih0 := impl_SmoothTurns.mono_l k
  unfold impl_SmoothTurns.f
  repeat' first | (with_reducible exact ih0 _ _ _ _) | (with_reducible exact impl_bestExchange.mono _ _) | (with_reducible exact impl_levelCode.mono _ _) | (with_reducible exact LeO.refl _) | (with_reducible exact LeO.none _) | (with_reducible refine LeO.ite ?_ ?_) | (with_reducible refine LeO.bind ?_ (fun _ => ?_)) | exact ih0 _ _ _ _ | exact impl_bestExchange.mono _ _ | exact impl_levelCode.mono _ _ | exact LeO.none _ | refine LeO.ite ?_ ?_ | refine LeO.bind ?_ (fun _ => ?_)
set_option maxHeartbeats 8000000 in
set_option maxRecDepth 100000 in
theorem impl_SmoothTurns.calls (k : Nat) (A0 : Option Addr) (c0 : Nat) (l0 : List Int) (r1 : List Int) (r2 : Int) (w : World) (hr0 : Kd.C (Kd.int .i64) w A0 l0.length l0) (hc0 : l0.length ≤ c0) (h : impl_SmoothTurns.f k l0 = some (r1, r2)) :
    Calls Try.prog 6 #[.slice A0 l0.length c0] w fun e w' => ∃ v0_ : Value, e = .returned (.tuple #[v0_, .int .i64 r2]) ∧ Kd.R (Kd.int .i64) 2 w' w.heap.size (fun _ => True) v0_ r1 ∧ Below w.heap.size w w' := by
 have HR0 := Aside0.mk hr0
 have HC0 := Aside0.mk hc0
 clear hr0 hc0
 have HB := Aside0.mk (Below.refl w.heap.size w)
 have H : ((impl_levelCode.f k l0).bind fun t101 => (if t101 = 0 then ((slices_Clone_Sint64_int64.f l0).bind fun t102 => ((impl_bestExchange.f k t102).bind fun bt105 => (impl_SmoothTurns.l0 k t102 bt105.1 bt105.2.1 bt105.2.2))) else (some (([] : List Int), t101)))) = some (r1, r2) := h
 clear h
 replace H := Option.bind_eq_some_iff.mp H
 obtain ⟨t101, A20, H⟩ := H
 replace H : (if t101 = 0 then ((slices_Clone_Sint64_int64.f l0).bind fun t102 => ((impl_bestExchange.f k t102).bind fun bt105 => (impl_SmoothTurns.l0 k t102 bt105.1 bt105.2.1 bt105.2.2))) else (some (([] : List Int), t101))) = some (r1, r2) := H
 have A2 := Aside0.mk A20
 clear A20
 by_cases c3 : t101 = 0
 ·
  rw [if_pos c3] at H
  have c3b0 : (t101 == 0) = true := beq_iff_eq.mpr c3
  have c3b1 : (t101 != 0) = false := bne_eq_false_iff_eq.mpr c3
  clear c3
  replace H := Option.bind_eq_some_iff.mp H
  obtain ⟨t102, A40, H⟩ := H
  replace H : ((impl_bestExchange.f k t102).bind fun bt105 => (impl_SmoothTurns.l0 k t102 bt105.1 bt105.2.1 bt105.2.2)) = some (r1, r2) := H
  have A4 := Aside0.mk A40
  clear A40
  replace H := Option.bind_eq_some_iff.mp H
  obtain ⟨⟨t105, t106, t107⟩, A50, H⟩ := H
  replace H : (impl_SmoothTurns.l0 k t102 t105 t106 t107) = some (r1, r2) := H
  have A5 := Aside0.mk A50
  clear A50
  have H' := Aside0.mk H
  clear H
  go_enter Try.func6, Try.ntmps6
  go_wp2_with (first | ((with_reducible refine gate_callee (f := 27) rfl ?_); refine goesL_ (some 10) rfl rfl Try.func27 zk rfl #[.slice A0 l0.length c0] rfl zA ?_; (with_reducible refine (impl_levelCode.calls k _ _ l0 t101 _ ?side1 ?side2 A2.out).mono ?_); (case side1 => exact zC HR0.out); (case side2 => exact HC0.out); rintro e w6 ⟨rfl, hb⟩; refine ⟨_, rfl, ?_⟩; replace HB := Aside0.mk (below_step (zB) hb); (try clear hb); (try clear hb2); (try clear hk); (try clear hi)) | ((with_reducible refine gate_callee (f := 28) rfl ?_); refine goesL_ (some 15) rfl rfl Try.func28 zk rfl #[.slice A0 l0.length c0] rfl zA ?_; (with_reducible refine (slices_Clone_Sint64_int64.calls _ _ l0 t102 _ ?side1 ?side2 A4.out).mono ?_); (case side1 => exact zC (Kd.C_below HR0.out HB.out)); (case side2 => exact HC0.out); rintro e w7 ⟨v103, rfl, ho0, hb⟩; refine ⟨_, rfl, ?_⟩; have n_ := y2 (Kd.R_lower ho0 (below_size (zB))) (below_step (zB) hb); clear HB; obtain ⟨HO104, HB⟩ := n_; (try clear hb); (try clear hb2); (try clear hk); (try clear hi); (try clear ho0); obtain ⟨Ao8, co8, eo8⟩ := Kd.R_slice HO104.out; subst eo8) | ((with_reducible refine gate_callee (f := 29) rfl ?_); refine goesL_ (some 18) rfl rfl Try.func29 zk rfl #[.slice Ao8 t102.length co8] rfl zA ?_; (with_reducible refine (impl_bestExchange.calls k _ _ t102 t105 t106 t107 _ ?side1 ?side2 A5.out).mono ?_); (case side1 => exact zC (Kd.R_reads' HO104.out).2.2); (case side2 => exact (Kd.R_reads' HO104.out).2.1); rintro e w9 ⟨rfl, hb⟩; refine ⟨_, rfl, ?_⟩; have n_ := y2 (Kd.R_below (zR HO104.out) hb) (below_step (zB) hb); clear HO104 HB; obtain ⟨HO104, HB⟩ := n_; (try clear hb); (try clear hb2); (try clear hk); (try clear hi)))
  go_loopg [5, 6, 7, 8] k (fun kq v5 v6 v7 v8 w' => ∃ (x5_1 : List Int) (x6_1 : Int) (x7_1 : Int) (x8_1 : Bool), v6 = .int .i64 x6_1 ∧ v7 = .int .i64 x7_1 ∧ v8 = .bool x8_1 ∧ Aside0 (impl_SmoothTurns.l0 kq x5_1 x6_1 x7_1 x8_1 = some (r1, r2)) ∧ Aside0 (kq ≤ k) ∧ Aside0 (Kd.R (Kd.int .i64) 2 w' w.heap.size (fun _ => True) v5 x5_1) ∧ Aside0 (Below w.heap.size w w'))
  case atStart => exact ⟨(t102), (t105), (t106), (t107), zF, zF, zF, H', ⟨Nat.le_refl _⟩, ⟨zR HO104.out⟩, ⟨zB⟩⟩
  clear H'
  try clear c3
  try clear c3b0
  try clear c3b1
  obtain ⟨x5_1, x6_1, x7_1, x8_1, rfl, rfl, rfl, HA, HK1, HO_5, HB⟩ := hrel
  cases gk with
  | zero => exact absurd HA.out (by simp [impl_SmoothTurns.l0])
  | succ k1 =>
    have H := HA.out
    clear HA
    simp only [impl_SmoothTurns.l0] at H
    by_cases c10 : x8_1 = true
    · subst c10
      have H1 : ((impl_exchanged.f x5_1 x6_1 x7_1).bind fun t108 => ((impl_bestExchange.f k1 t108).bind fun bt111 => (impl_SmoothTurns.l0 k1 t108 bt111.1 bt111.2.1 bt111.2.2))) = some (r1, r2) := by rw [if_pos rfl] at H; exact H
      clear H
      have H := H1
      clear H1
      replace H := Option.bind_eq_some_iff.mp H
      obtain ⟨t108, A110, H⟩ := H
      replace H : ((impl_bestExchange.f k1 t108).bind fun bt111 => (impl_SmoothTurns.l0 k1 t108 bt111.1 bt111.2.1 bt111.2.2)) = some (r1, r2) := H
      have A11 := Aside0.mk A110
      clear A110
      replace H := Option.bind_eq_some_iff.mp H
      obtain ⟨⟨t111, t112, t113⟩, A120, H⟩ := H
      replace H : (impl_SmoothTurns.l0 k1 t108 t111 t112 t113) = some (r1, r2) := H
      have A12 := Aside0.mk A120
      clear A120
      have H' := Aside0.mk H
      clear H
      obtain ⟨Ao13, co13, eo13⟩ := Kd.R_slice HO_5.out
      subst eo13
      go_wp2_with (first | ((with_reducible refine gate_callee (f := 30) rfl ?_); refine goesL_ (some 32) rfl rfl Try.func30 zk rfl #[.slice Ao13 x5_1.length co13, .int .i64 x6_1, .int .i64 x7_1] rfl zA ?_; (with_reducible refine (impl_exchanged.calls _ _ x5_1 x6_1 x7_1 t108 _ ?side1 ?side2 A11.out).mono ?_); (case side1 => exact zC (Kd.R_reads' HO_5.out).2.2); (case side2 => exact (Kd.R_reads' HO_5.out).2.1); rintro e w14 ⟨v109, rfl, ho0, hb⟩; refine ⟨_, rfl, ?_⟩; have n_ := y3 (Kd.R_elder' (zR HO_5.out) (Kd.R_base ho0) hb) (Kd.R_lower (Kd.R_new' ho0 (Kd.R_lt (zR HO_5.out))) (below_size (zB))) (below_step (zB) hb); clear HO_5 HB; obtain ⟨HO_5, HO110, HB⟩ := n_; (try clear hb); (try clear hb2); (try clear hk); (try clear hi); (try clear ho0); obtain ⟨Ao15, co15, eo15⟩ := Kd.R_slice HO110.out; subst eo15) | ((with_reducible refine gate_callee (f := 29) rfl ?_); refine goesL_ (some 25) rfl rfl Try.func29 zk rfl #[.slice Ao15 t108.length co15] rfl zA ?_; (with_reducible refine (impl_bestExchange.calls k1 _ _ t108 t111 t112 t113 _ ?side1 ?side2 A12.out).mono ?_); (case side1 => exact zC (Kd.R_reads' HO110.out).2.2); (case side2 => exact (Kd.R_reads' HO110.out).2.1); rintro e w16 ⟨rfl, hb⟩; refine ⟨_, rfl, ?_⟩; have n_ := y3 (Kd.R_below (zR HO_5.out) hb) (Kd.R_below (zR HO110.out) hb) (below_step (zB) hb); clear HO_5 HO110 HB; obtain ⟨HO_5, HO110, HB⟩ := n_; (try clear hb); (try clear hb2); (try clear hk); (try clear hi)))
      go_roundg k1
      case measure => have := HK1.out; omega
      case rel => exact ⟨(t108), (t111), (t112), (t113), zF, zF, zF, H', ⟨by have := HK1.out; omega⟩, ⟨by refine zR ?_; exact Kd.R_mono HO110.out (fun _ hk => trivial)⟩, ⟨zB⟩⟩
    · replace c10 := Bool.eq_false_iff.mpr c10
      subst c10
      have H1 : (some (x5_1, 0)) = some (r1, r2) := by rw [if_neg (show ¬ (false = true) by decide)] at H; exact H
      clear H
      have H := H1
      clear H1
      simp only [Option.some.injEq, Prod.mk.injEq] at H
      obtain ⟨rfl, rfl⟩ := H
      go_wp2
      go_ret2
      exact ⟨_, zE, zR HO_5.out, zB⟩
 rw [if_neg c3] at H
 have c3b0 : (t101 == 0) = false := beq_eq_false_iff_ne.mpr c3
 have c3b1 : (t101 != 0) = true := bne_iff_ne.mpr c3
 simp only [Option.some.injEq, Prod.mk.injEq] at H
 obtain ⟨rfl, rfl⟩ := H
 go_enter Try.func6, Try.ntmps6
 go_wp2_with (first | ((with_reducible refine gate_callee (f := 27) rfl ?_); refine goesL_ (some 10) rfl rfl Try.func27 zk rfl #[.slice A0 l0.length c0] rfl zA ?_; (with_reducible refine (impl_levelCode.calls k _ _ l0 t101 _ ?side1 ?side2 A2.out).mono ?_); (case side1 => exact zC HR0.out); (case side2 => exact HC0.out); rintro e w17 ⟨rfl, hb⟩; refine ⟨_, rfl, ?_⟩; replace HB := Aside0.mk (below_step (zB) hb); (try clear hb); (try clear hb2); (try clear hk); (try clear hi)))
 go_ret2
 exact ⟨_, zE, zN, zB⟩
end Go.Proofs.Ytfmjckkgnieccaa.P
end
section
namespace Go.Proofs.Ytfmjckkgnieccaa.P
open Go.RowKit Go.Proofs.YtfmjckkgnieccaaW.PrintWords Go.Proofs.YtfmjckkgnieccaaW.PrintLast Go.Proofs.YtfmjckkgnieccaaW.PrintMore
attribute [local go_sem] max2_int min2_int max_two min_two max_three min_three max_four min_four   -- for this text's walks alone
set_option linter.unusedVariables false
set_option linter.unusedSimpArgs false
def spec_l01Turns.l0 : Nat → List Int → Int → Int → Option (Bool)
  | 0, _, _, _ => none
  | k + 1, x0, x1, x5 => if x5 < (x0.length : Int) then (if 0 ≤ x5 then ((spec_l01In.f (rd x0 x5) (-1) (wrap64 (x1 - 1))).bind fun t102 => (if t102 = true then (spec_l01Turns.l0 k x0 x1 (wrap64 (x5 + 1))) else (some false))) else (none)) else ((spec_l01In.f (x0.length : Int) 1 120).bind fun t103 => (some t103))
def spec_l01Turns.f (k : Nat) (l0 : List Int) (a1 : Int) : Option (Bool) := spec_l01Turns.l0 k l0 a1 0
theorem spec_l01Turns.mono_l : ∀ k, (∀ y0 y1 y2, LeO (spec_l01Turns.l0 k y0 y1 y2) (spec_l01Turns.l0 (k + 1) y0 y1 y2))
  | 0 => fun _ _ _ r h => by simp [spec_l01Turns.l0] at h
  | k + 1 => by
    have ih0 := spec_l01Turns.mono_l k
    · intro y0 y1 y2
      unfold spec_l01Turns.l0
      repeat' first | (with_reducible exact ih0 _ _ _) | (with_reducible exact LeO.refl _) | (with_reducible exact LeO.none _) | (with_reducible refine LeO.ite ?_ ?_) | (with_reducible refine LeO.bind ?_ (fun _ => ?_)) | exact ih0 _ _ _ | exact LeO.none _ | refine LeO.ite ?_ ?_ | refine LeO.bind ?_ (fun _ => ?_)
theorem spec_l01Turns.mono : ∀ a0 a1 k, LeO (spec_l01Turns.f k a0 a1) (spec_l01Turns.f (k + 1) a0 a1) := by
  intro a0 a1 k
  have ih0 := spec_l01Turns.mono_l k
  unfold spec_l01Turns.f
  repeat' first | (with_reducible exact ih0 _ _ _) | (with_reducible exact LeO.refl _) | (with_reducible exact LeO.none _) | (with_reducible refine LeO.ite ?_ ?_) | (with_reducible refine LeO.bind ?_ (fun _ => ?_)) | exact ih0 _ _ _ | exact LeO.none _ | refine LeO.ite ?_ ?_ | refine LeO.bind ?_ (fun _ => ?_)
set_option maxHeartbeats 8000000 in
set_option maxRecDepth 100000 in
theorem spec_l01Turns.calls (k : Nat) (A0 : Option Addr) (c0 : Nat) (l0 : List Int) (a1 : Int) (r : Bool) (w : World) (hr0 : Kd.C (Kd.int .i64) w A0 l0.length l0) (hc0 : l0.length ≤ c0) (h : spec_l01Turns.f k l0 a1 = some r) :
    Calls Try.prog 41 #[.slice A0 l0.length c0, .int .i64 a1] w fun e w' => e = .returned (.bool r) ∧ Drawn0 w w' := by
 have HR0 := Aside0.mk hr0
 have HC0 := Aside0.mk hc0
 clear hr0 hc0
 have H : (spec_l01Turns.l0 k l0 a1 0) = some r := h
 clear h
 have H' := Aside0.mk H
 clear H
 go_enter Try.func41, Try.ntmps41
 go_wp2
 go_loopg [5] k (fun kq v5 w' => ∃ (x5_1 : Int), v5 = .int .i64 x5_1 ∧ Aside0 (spec_l01Turns.l0 kq l0 a1 x5_1 = some r) ∧ Aside0 (kq ≤ k) ∧ Drawn0 w w')
 case atStart => exact ⟨(0), zF, H', ⟨Nat.le_refl _⟩, by repeat (first | exact Drawn0.refl _ | apply Drawn0.step)⟩
 clear H'
 obtain ⟨x5_1, rfl, HA, HK1, ⟨m1, rfl⟩⟩ := hrel
 cases gk with
 | zero => exact absurd HA.out (by simp [spec_l01Turns.l0])
 | succ k1 =>
   have H := HA.out
   clear HA
   simp only [spec_l01Turns.l0] at H
   by_cases c3 : x5_1 < (l0.length : Int)
   · rw [if_pos c3] at H
     have c3b0 : decide (x5_1 < (l0.length : Int)) = true := decide_eq_true c3
     clear c3
     by_cases c4 : 0 ≤ x5_1
     · rw [if_pos c4] at H
       have c4b0 : decide (0 ≤ x5_1) = true := decide_eq_true c4
       clear c4
       replace H := Option.bind_eq_some_iff.mp H
       obtain ⟨t102, A50, H⟩ := H
       replace H : (if t102 = true then (spec_l01Turns.l0 k1 l0 a1 (wrap64 (x5_1 + 1))) else (some false)) = some r := H
       have A5 := Aside0.mk A50
       clear A50
       by_cases c6 : t102 = true
       · subst c6
         have H1 : (spec_l01Turns.l0 k1 l0 a1 (wrap64 (x5_1 + 1))) = some r := by rw [if_pos rfl] at H; exact H
         clear H
         have H := H1
         clear H1
         have H' := Aside0.mk H
         clear H
         have p101 : 0 ≤ (x5_1 : Int) := zD
         have q101 : x5_1 < (l0.length : Int) := zD
         obtain ⟨ad101, e101, hx101_0⟩ := Kd.at_int HR0.out x5_1 p101 q101
         cases e101
         replace p101 := eq_true p101
         replace q101 := eq_true q101
         go_wp2_with (first | ((with_reducible refine gate_callee (f := 42) rfl ?_); refine goesL_ (some 18) rfl rfl Try.func42 zk rfl #[.int .i64 (rd l0 x5_1), .int .i64 (-1), .int .i64 (wrap64 (a1 - 1))] rfl zA ?_; (with_reducible refine (spec_l01In.calls (rd l0 x5_1) (-1) (wrap64 (a1 - 1)) true _ A5.out).mono ?_); rintro e w' ⟨rfl, ⟨nd, rfl⟩⟩; refine ⟨_, rfl, ?_⟩))
         go_roundg k1
         case measure => have := HK1.out; omega
         case rel => exact ⟨(wrap64 (x5_1 + 1)), zF, H', ⟨by have := HK1.out; omega⟩, by repeat (first | exact Drawn0.refl _ | apply Drawn0.step)⟩
       · replace c6 := Bool.eq_false_iff.mpr c6
         subst c6
         have H1 : (some false) = some r := by rw [if_neg (show ¬ (false = true) by decide)] at H; exact H
         clear H
         have H := H1
         clear H1
         obtain rfl := Option.some.inj H
         have p101 : 0 ≤ (x5_1 : Int) := zD
         have q101 : x5_1 < (l0.length : Int) := zD
         obtain ⟨ad101, e101, hx101_0⟩ := Kd.at_int HR0.out x5_1 p101 q101
         cases e101
         replace p101 := eq_true p101
         replace q101 := eq_true q101
         go_wp2_with (first | ((with_reducible refine gate_callee (f := 42) rfl ?_); refine goesL_ (some 18) rfl rfl Try.func42 zk rfl #[.int .i64 (rd l0 x5_1), .int .i64 (-1), .int .i64 (wrap64 (a1 - 1))] rfl zA ?_; (with_reducible refine (spec_l01In.calls (rd l0 x5_1) (-1) (wrap64 (a1 - 1)) false _ A5.out).mono ?_); rintro e w' ⟨rfl, ⟨nd, rfl⟩⟩; refine ⟨_, rfl, ?_⟩))
         go_ret
         exact ⟨by first | rfl | (simp; done) | (simp [*]; done), by repeat (first | exact Drawn0.refl _ | apply Drawn0.step)⟩
     · rw [if_neg c4] at H
       exact absurd H (by simp)
   · rw [if_neg c3] at H
     have c3b0 : decide (x5_1 < (l0.length : Int)) = false := decide_eq_false c3
     clear c3
     replace H := Option.bind_eq_some_iff.mp H
     obtain ⟨t103, A70, H⟩ := H
     replace H : (some t103) = some r := H
     have A7 := Aside0.mk A70
     clear A70
     obtain rfl := Option.some.inj H
     go_wp2_with (first | ((with_reducible refine gate_callee (f := 42) rfl ?_); refine goesL_ (some 22) rfl rfl Try.func42 zk rfl #[.int .i64 (l0.length : Int), .int .i64 1, .int .i64 120] rfl zA ?_; (with_reducible refine (spec_l01In.calls (l0.length : Int) 1 120 t103 _ A7.out).mono ?_); rintro e w' ⟨rfl, ⟨nd, rfl⟩⟩; refine ⟨_, rfl, ?_⟩))
     go_ret
     exact ⟨by first | rfl | (simp; done) | (simp [*]; done), by repeat (first | exact Drawn0.refl _ | apply Drawn0.step)⟩
end Go.Proofs.Ytfmjckkgnieccaa.P
end
section
namespace Go.Proofs.Ytfmjckkgnieccaa.P
open Go.RowKit Go.Proofs.YtfmjckkgnieccaaW.PrintWords Go.Proofs.YtfmjckkgnieccaaW.PrintLast Go.Proofs.YtfmjckkgnieccaaW.PrintMore
attribute [local go_sem] max2_int min2_int max_two min_two max_three min_three max_four min_four   -- for this text's walks alone
set_option linter.unusedVariables false
set_option linter.unusedSimpArgs false
mutual
def spec_l07Shares.l0 : Nat → List Int → Int → Int → Option (List Int × Bool)
  | 0, _, _, _ => none
  | k + 1, x0, x4, x5 => if x5 < (x0.length : Int) then (if 0 ≤ x5 then (if (rd x0 x5) < 0 then (some (([] : List Int), false)) else (spec_l07Shares.l0 k x0 (mx x4 (rd x0 x5)) (wrap64 (x5 + 1)))) else (none)) else (if 0 ≤ (wrap64 (x4 + 1)) then (if (wrap64 (x4 + 1) : Int).toNat ≤ 35184372088832 then (spec_l07Shares.l1 k x0 (List.replicate (wrap64 (x4 + 1) : Int).toNat 0) 0) else (none)) else (none))
def spec_l07Shares.l1 : Nat → List Int → List Int → Int → Option (List Int × Bool)
  | 0, _, _, _ => none
  | k + 1, x0, x6, x7 => if x7 < (x0.length : Int) then (if 0 ≤ x7 then (if 0 ≤ (rd x0 x7) then (if (rd x0 x7) < (x6.length : Int) then (spec_l07Shares.l1 k x0 (x6.set ((rd x0 x7) : Int).toNat (wrap64 ((rd x6 (rd x0 x7)) + 1))) (wrap64 (x7 + 1))) else (none)) else (none)) else (none)) else (spec_l07Shares.l2 k x0 x6 (x6.length : Int) 0)
def spec_l07Shares.l2 : Nat → List Int → List Int → Int → Int → Option (List Int × Bool)
  | 0, _, _, _, _ => none
  | k + 1, x0, x6, x45, x46 => if x46 < x45 then (if 0 ≤ x46 then (if x46 < (x6.length : Int) then (if (rd x6 x46) = 0 then (some (([] : List Int), false)) else (spec_l07Shares.l2 k x0 x6 x45 (wrap64 (x46 + 1)))) else (none)) else (none)) else (some (x6, decide ((x0.length : Int) ≤ 60)))
end
def spec_l07Shares.f (k : Nat) (l0 : List Int) : Option (List Int × Bool) := spec_l07Shares.l0 k l0 0 0
theorem spec_l07Shares.mono_l : ∀ k, (∀ y0 y1 y2, LeO (spec_l07Shares.l0 k y0 y1 y2) (spec_l07Shares.l0 (k + 1) y0 y1 y2)) ∧ (∀ y0 y1 y2, LeO (spec_l07Shares.l1 k y0 y1 y2) (spec_l07Shares.l1 (k + 1) y0 y1 y2)) ∧ (∀ y0 y1 y2 y3, LeO (spec_l07Shares.l2 k y0 y1 y2 y3) (spec_l07Shares.l2 (k + 1) y0 y1 y2 y3))
  | 0 => ⟨fun _ _ _ r h => by simp [spec_l07Shares.l0] at h, fun _ _ _ r h => by simp [spec_l07Shares.l1] at h, fun _ _ _ _ r h => by simp [spec_l07Shares.l2] at h⟩
  | k + 1 => by
    obtain ⟨ih0, ih1, ih2⟩ := spec_l07Shares.mono_l k
    refine ⟨?_, ?_, ?_⟩ <;> intros <;> (first | unfold spec_l07Shares.l0 | unfold spec_l07Shares.l1 | unfold spec_l07Shares.l2) <;> repeat' first | (with_reducible exact ih0 _ _ _) | (with_reducible exact ih1 _ _ _) | (with_reducible exact ih2 _ _ _ _) | (with_reducible exact LeO.refl _) | (with_reducible exact LeO.none _) | (with_reducible refine LeO.ite ?_ ?_) | (with_reducible refine LeO.bind ?_ (fun _ => ?_)) | exact ih0 _ _ _ | exact ih1 _ _ _ | exact ih2 _ _ _ _ | exact LeO.none _ | refine LeO.ite ?_ ?_ | refine LeO.bind ?_ (fun _ => ?_)
theorem spec_l07Shares.mono : ∀ a0 k, LeO (spec_l07Shares.f k a0) (spec_l07Shares.f (k + 1) a0) := by
  intro a0 k
  obtain ⟨ih0, ih1, ih2⟩ := spec_l07Shares.mono_l k
  unfold spec_l07Shares.f
  repeat' first | (with_reducible exact ih0 _ _ _) | (with_reducible exact ih1 _ _ _) | (with_reducible exact ih2 _ _ _ _) | (with_reducible exact LeO.refl _) | (with_reducible exact LeO.none _) | (with_reducible refine LeO.ite ?_ ?_) | (with_reducible refine LeO.bind ?_ (fun _ => ?_)) | exact ih0 _ _ _ | exact ih1 _ _ _ | exact ih2 _ _ _ _ | exact LeO.none _ | refine LeO.ite ?_ ?_ | refine LeO.bind ?_ (fun _ => ?_)
set_option maxHeartbeats 8000000 in
set_option maxRecDepth 100000 in
theorem spec_l07Shares.calls (k : Nat) (A0 : Option Addr) (c0 : Nat) (l0 : List Int) (r1 : List Int) (r2 : Bool) (w : World) (hr0 : Kd.C (Kd.int .i64) w A0 l0.length l0) (hc0 : l0.length ≤ c0) (h : spec_l07Shares.f k l0 = some (r1, r2)) :
    Calls Try.prog 61 #[.slice A0 l0.length c0] w fun e w' => ∃ v0_ : Value, e = .returned (.tuple #[v0_, .bool r2]) ∧ Kd.R (Kd.int .i64) 2 w' w.heap.size (fun _ => True) v0_ r1 ∧ Below w.heap.size w w' := by
 have HR0 := Aside0.mk hr0
 have HC0 := Aside0.mk hc0
 clear hr0 hc0
 have HB := Aside0.mk (Below.refl w.heap.size w)
 have H : (spec_l07Shares.l0 k l0 0 0) = some (r1, r2) := h
 clear h
 have H' := Aside0.mk H
 clear H
 go_enter Try.func61, Try.ntmps61
 go_wp2
 go_loopg [4, 5] k (fun kq v4 v5 w' => ∃ (x4_1 : Int) (x5_1 : Int), v4 = .int .i64 x4_1 ∧ v5 = .int .i64 x5_1 ∧ Aside0 (spec_l07Shares.l0 kq l0 x4_1 x5_1 = some (r1, r2)) ∧ Aside0 (kq ≤ k) ∧ Aside0 (Below w.heap.size w w'))
 case atStart => exact ⟨(0), (0), zF, zF, H', ⟨Nat.le_refl _⟩, ⟨zB⟩⟩
 clear H'
 obtain ⟨x4_1, x5_1, rfl, rfl, HA, HK1, HB⟩ := hrel
 cases gk with
 | zero => exact absurd HA.out (by simp [spec_l07Shares.l0])
 | succ k1 =>
   have H := HA.out
   clear HA
   simp only [spec_l07Shares.l0] at H
   by_cases c2 : x5_1 < (l0.length : Int)
   · rw [if_pos c2] at H
     have c2b0 : decide (x5_1 < (l0.length : Int)) = true := decide_eq_true c2
     clear c2
     by_cases c3 : 0 ≤ x5_1
     · rw [if_pos c3] at H
       have c3b0 : decide (0 ≤ x5_1) = true := decide_eq_true c3
       clear c3
       by_cases c4 : (rd l0 x5_1) < 0
       · rw [if_pos c4] at H
         have c4b0 : decide ((rd l0 x5_1) < 0) = true := decide_eq_true c4
         clear c4
         simp only [Option.some.injEq, Prod.mk.injEq] at H
         obtain ⟨rfl, rfl⟩ := H
         have p101 : 0 ≤ (x5_1 : Int) := zD
         have q101 : x5_1 < (l0.length : Int) := zD
         obtain ⟨ad101, e101, hx101_0⟩ := Kd.at_int HR0.out x5_1 p101 q101
         cases e101
         replace hx101_0 := (HB.out.cell (World.block_lt_of_cell? w _ hx101_0)).trans hx101_0
         replace p101 := eq_true p101
         replace q101 := eq_true q101
         go_wp2
         go_ret2
         exact ⟨_, zE, zN, zB⟩
       · rw [if_neg c4] at H
         have c4b0 : decide ((rd l0 x5_1) < 0) = false := decide_eq_false c4
         clear c4
         obtain ⟨ji5, hji5⟩ : ∃ j_ : Int, (mx x4_1 (rd l0 x5_1)) = j_ := ⟨_, rfl⟩
         replace H : (spec_l07Shares.l0 k1 l0 ji5 (wrap64 (x5_1 + 1))) = some (r1, r2) := by first | (rw [hji5] at H; exact H) | (simp only [hji5] at H ⊢; exact H)
         have hji5_ : (if x4_1 < (rd l0 x5_1) then (rd l0 x5_1) else x4_1) = ji5 := hji5
         have H' := Aside0.mk H
         clear H
         have p101 : 0 ≤ (x5_1 : Int) := zD
         have q101 : x5_1 < (l0.length : Int) := zD
         obtain ⟨ad101, e101, hx101_0⟩ := Kd.at_int HR0.out x5_1 p101 q101
         cases e101
         replace hx101_0 := (HB.out.cell (World.block_lt_of_cell? w _ hx101_0)).trans hx101_0
         replace p101 := eq_true p101
         replace q101 := eq_true q101
         have p102 : 0 ≤ (x5_1 : Int) := zD
         have q102 : x5_1 < (l0.length : Int) := zD
         obtain ⟨ad102, e102, hx102_0⟩ := Kd.at_int HR0.out x5_1 p102 q102
         obtain rfl : ad101 = ad102 := (by injection e102)
         replace hx102_0 := (HB.out.cell (World.block_lt_of_cell? w _ hx102_0)).trans hx102_0
         replace p102 := eq_true p102
         replace q102 := eq_true q102
         go_wp2
         go_roundg k1
         case measure => have := HK1.out; omega
         case rel => exact ⟨(ji5), (wrap64 (x5_1 + 1)), (by first | rfl | (simp; done) | (simp only [← hji5] <;> (first | rfl | simp)) | (simp [*]; done)), zF, H', ⟨by have := HK1.out; omega⟩, ⟨zB⟩⟩
     · rw [if_neg c3] at H
       exact absurd H (by simp)
   · rw [if_neg c2] at H
     have c2b0 : decide (x5_1 < (l0.length : Int)) = false := decide_eq_false c2
     clear c2
     obtain ⟨ji6, hji6⟩ : ∃ j_ : Int, (wrap64 (x4_1 + 1)) = j_ := ⟨_, rfl⟩
     replace H : (if 0 ≤ (ji6) then (if (ji6 : Int).toNat ≤ 35184372088832 then (spec_l07Shares.l1 k1 l0 (List.replicate (ji6 : Int).toNat 0) 0) else (none)) else (none)) = some (r1, r2) := by first | (rw [hji6] at H; exact H) | (simp only [hji6] at H ⊢; exact H)
     have hji6w : (IntKind.i64.wrap (x4_1 + 1)) = ji6 := (i64_w _).trans hji6
     by_cases c7 : 0 ≤ (ji6)
     · rw [if_pos c7] at H
       have c7b0 := eq_true c7
       have c7b1 : decide (0 ≤ (ji6)) = true := decide_eq_true c7
       clear c7
       by_cases c8 : (ji6 : Int).toNat ≤ 35184372088832
       · rw [if_pos c8] at H
         have c8b0 := eq_true c8
         have c8b1 : decide ((ji6 : Int).toNat ≤ 35184372088832) = true := decide_eq_true c8
         clear c8
         obtain ⟨y103, hy103⟩ : ∃ y_ : List Int, y_ = (List.replicate (ji6 : Int).toNat 0) := ⟨_, rfl⟩
         replace H : (spec_l07Shares.l1 k1 l0 y103 0) = some (r1, r2) := zH hy103
         have Ny103 := Aside0.mk hy103
         clear hy103
         have H' := Aside0.mk H
         clear H
         go_wp2_with (first | ((with_reducible refine gate_dst (N := 28) rfl ?_); refine Kd.R_make (Kd.int .i64) _ 2 rfl (N := 28) rfl 24 _ _ rfl ji6 rfl rfl Try.underlying24 (.int .i64 0) 8 info2 rfl (by decide) (by omega) 0 (ok := fun _ => True) (okp := fun _ => True) rfl (fun _ hk => hk) trivial (zD) (Nat.le_trans (Nat.mul_le_mul_right _ (zD : ji6.toNat ≤ 35184372088832)) (by omega)) (Below.refl _ _) (Nat.le_refl _) ?_; intro v104 w9 ho10 hb hg_ hnew_; clear hg_ hnew_; (first | rw [← Ny103.out] at ho10 | (simp only [Int.reduceToNat] at ho10; rw [← Ny103.out] at ho10)); have n_ := y2 (Kd.R_lower ho10 (below_size (zB))) (below_step (zB) hb); clear HB; obtain ⟨HO105, HB⟩ := n_; clear hb ho10))
         go_loopg [7] k1 (fun kq v7 w' => ∃ (x6_2 : List Int) (x7_2 : Int), v7 = .int .i64 x7_2 ∧ Aside0 (spec_l07Shares.l1 kq l0 x6_2 x7_2 = some (r1, r2)) ∧ Aside0 (kq ≤ k1) ∧ Aside0 (Kd.R (Kd.int .i64) 2 w' w.heap.size (fun _ => True) v104 x6_2) ∧ Aside0 (Below w.heap.size w w'))
         case atStart => exact ⟨(y103), (0), zF, H', ⟨Nat.le_refl _⟩, ⟨zR HO105.out⟩, ⟨zB⟩⟩
         case round =>
           clear H'
           try clear c2
           try clear c2b0
           try clear c7
           try clear c7b0
           try clear c7b1
           try clear c8
           try clear c8b0
           try clear c8b1
           obtain ⟨x6_2, x7_2, rfl, HA, HK2, HO_6, HB⟩ := hrel
           cases gk with
           | zero => exact absurd HA.out (by simp [spec_l07Shares.l1])
           | succ k2 =>
             have H := HA.out
             clear HA
             simp only [spec_l07Shares.l1] at H
             by_cases c11 : x7_2 < (l0.length : Int)
             · rw [if_pos c11] at H
               have c11b0 : decide (x7_2 < (l0.length : Int)) = true := decide_eq_true c11
               clear c11
               by_cases c12 : 0 ≤ x7_2
               · rw [if_pos c12] at H
                 have c12b0 : decide (0 ≤ x7_2) = true := decide_eq_true c12
                 clear c12
                 by_cases c13 : 0 ≤ (rd l0 x7_2)
                 · rw [if_pos c13] at H
                   have c13b0 : decide (0 ≤ (rd l0 x7_2)) = true := decide_eq_true c13
                   clear c13
                   by_cases c14 : (rd l0 x7_2) < (x6_2.length : Int)
                   · rw [if_pos c14] at H
                     have c14b0 : decide ((rd l0 x7_2) < (x6_2.length : Int)) = true := decide_eq_true c14
                     clear c14
                     obtain ⟨y108, hy108⟩ : ∃ y_ : List Int, y_ = (x6_2.set ((rd l0 x7_2) : Int).toNat (wrap64 ((rd x6_2 (rd l0 x7_2)) + 1))) := ⟨_, rfl⟩
                     replace H : (spec_l07Shares.l1 k2 l0 y108 (wrap64 (x7_2 + 1))) = some (r1, r2) := zH hy108
                     have Ny108 := Aside0.mk hy108
                     clear hy108
                     have H' := Aside0.mk H
                     clear H
                     have p106 : 0 ≤ (x7_2 : Int) := zD
                     have q106 : x7_2 < (l0.length : Int) := zD
                     obtain ⟨ad106, e106, hx106_0⟩ := Kd.at_int HR0.out x7_2 p106 q106
                     cases e106
                     replace hx106_0 := (HB.out.cell (World.block_lt_of_cell? w _ hx106_0)).trans hx106_0
                     replace p106 := eq_true p106
                     replace q106 := eq_true q106
                     obtain ⟨Ao16, co16, eo16⟩ := Kd.R_slice HO_6.out
                     subst eo16
                     have p107 : 0 ≤ ((rd l0 x7_2) : Int) := zD
                     have q107 : (rd l0 x7_2) < (x6_2.length : Int) := zD
                     obtain ⟨ad107, e107, hx107_0⟩ := Kd.at_int (Kd.R_reads' HO_6.out).2.2 (rd l0 x7_2) p107 q107
                     cases e107
                     replace p107 := eq_true p107
                     replace q107 := eq_true q107
                     have p15 : 0 ≤ ((rd l0 x7_2) : Int) := zD
                     have q15 : ((rd l0 x7_2) : Int) < ((x6_2.length : Int) : Int) := zD
                     obtain ⟨go15, co15, eo15, gb15, gl15, cl15, HG15⟩ := Kd.R_form HO_6.out (by omega)
                     (first | cases eo15 | (injection eo15 with ea_ en_ ec_; (first | subst ea_ | (injection ea_ with ea_; subst ea_)); subst ec_; clear en_))
                     have GB15 := Aside0.mk gb15
                     have GG15 := Aside0.mk HG15
                     clear gb15 gl15 HG15
                     (first | simp only [add_plain] at hx107_0 | skip)
                     obtain ⟨hx15_0, hf15_0⟩ := Kd.R_celln 0 HO_6.out ((rd l0 x7_2) : Int) p15 q15
                     replace p15 := eq_true p15
                     replace q15 := eq_true q15
                     have HP17 := Kd.R_putg HO_6.out ((rd l0 x7_2) : Int) (wrap64 ((rd x6_2 (rd l0 x7_2)) + 1))
                     go_wp2_with (first | ((with_reducible refine gate_store (t := 2) (p := 43) rfl ?_); refine store_event (t := 2) (p := 43) (v := ?vo_w18) (w1 := (wr.setCell ⟨go15, ((rd l0 x7_2) : Int).toNat, none⟩ (.int .i64 (wrap64 ((rd x6_2 (rd l0 x7_2)) + 1))))) ?hg ?ho ?hn ?hr ?_; (case ho => rfl); (case hg => rfl); (case hn => rfl); (case hr => first | (go_simp; done) | (go_simp; rfl)); intro w18 hw; have hg : wr.grownBy w18 (some go15) := (by rw [hw]; exact HP17.2); have hp_ : Kd.R (Kd.int .i64) 2 w18 w.heap.size (fun _ => True) (.slice (some ⟨go15, 0, none⟩) x6_2.length co16) y108 := (by rw [hw, Ny108.out]; exact HP17.1); clear HP17; have n_ := y2 (hp_) ((by rw [hw]; exact below_set (HB.out) GB15.out : Below w.heap.size w w18)); clear HO_6 HB; obtain ⟨HO_6, HB⟩ := n_; clear hg hw hp_))
                     go_roundg k2
                     case measure => have := HK1.out; have := HK2.out; omega
                     case rel => exact ⟨(y108), (wrap64 (x7_2 + 1)), zF, H', ⟨by have := HK1.out; have := HK2.out; omega⟩, ⟨zR HO_6.out⟩, ⟨zB⟩⟩
                   · rw [if_neg c14] at H
                     exact absurd H (by simp)
                 · rw [if_neg c13] at H
                   exact absurd H (by simp)
               · rw [if_neg c12] at H
                 exact absurd H (by simp)
             · rw [if_neg c11] at H
               have c11b0 : decide (x7_2 < (l0.length : Int)) = false := decide_eq_false c11
               clear c11
               have H' := Aside0.mk H
               clear H
               obtain ⟨Ao19, co19, eo19⟩ := Kd.R_slice HO_6.out
               subst eo19
               go_wp2
               go_loopg [46] k2 (fun kq v46 w' => ∃ (x46_3 : Int), v46 = .int .i64 x46_3 ∧ Aside0 (spec_l07Shares.l2 kq l0 x6_2 (x6_2.length : Int) x46_3 = some (r1, r2)) ∧ Aside0 (kq ≤ k2) ∧ Aside0 (Kd.R (Kd.int .i64) 2 w' w.heap.size (fun _ => True) (.slice Ao19 x6_2.length co19) x6_2) ∧ Aside0 (Below w.heap.size w w'))
               case atStart => exact ⟨(0), zF, H', ⟨Nat.le_refl _⟩, ⟨zR HO_6.out⟩, ⟨zB⟩⟩
               case round =>
                 clear H'
                 try clear c2
                 try clear c2b0
                 try clear c7
                 try clear c7b0
                 try clear c7b1
                 try clear c8
                 try clear c8b0
                 try clear c8b1
                 try clear c11
                 try clear c11b0
                 obtain ⟨x46_3, rfl, HA, HK3, HO_6, HB⟩ := hrel
                 cases gk with
                 | zero => exact absurd HA.out (by simp [spec_l07Shares.l2])
                 | succ k3 =>
                   have H := HA.out
                   clear HA
                   simp only [spec_l07Shares.l2] at H
                   by_cases c20 : x46_3 < (x6_2.length : Int)
                   · rw [if_pos c20] at H
                     have c20b0 : decide (x46_3 < (x6_2.length : Int)) = true := decide_eq_true c20
                     clear c20
                     by_cases c21 : 0 ≤ x46_3
                     · rw [if_pos c21] at H
                       have c21b0 : decide (0 ≤ x46_3) = true := decide_eq_true c21
                       clear c21
                       by_cases c22 : x46_3 < (x6_2.length : Int)
                       · rw [if_pos c22] at H
                         have c22b0 : decide (x46_3 < (x6_2.length : Int)) = true := decide_eq_true c22
                         clear c22
                         by_cases c23 : (rd x6_2 x46_3) = 0
                         · rw [if_pos c23] at H
                           have c23b0 : ((rd x6_2 x46_3) == 0) = true := beq_iff_eq.mpr c23
                           have c23b1 : ((rd x6_2 x46_3) != 0) = false := bne_eq_false_iff_eq.mpr c23
                           clear c23
                           simp only [Option.some.injEq, Prod.mk.injEq] at H
                           obtain ⟨rfl, rfl⟩ := H
                           have p109 : 0 ≤ (x46_3 : Int) := zD
                           have q109 : x46_3 < (x6_2.length : Int) := zD
                           obtain ⟨ad109, e109, hx109_0⟩ := Kd.at_int (Kd.R_reads' HO_6.out).2.2 x46_3 p109 q109
                           cases e109
                           replace p109 := eq_true p109
                           replace q109 := eq_true q109
                           go_wp2
                           go_ret2
                           exact ⟨_, by first | rfl | (simp [errW_none, errW_some] <;> rfl) | (simp only [← hji6]; first | rfl | (simp [errW_none, errW_some] <;> rfl)) | (simp [*, errW_none, errW_some] <;> rfl), zN, zB⟩
                         · rw [if_neg c23] at H
                           have c23b0 : ((rd x6_2 x46_3) == 0) = false := beq_eq_false_iff_ne.mpr c23
                           have c23b1 : ((rd x6_2 x46_3) != 0) = true := bne_iff_ne.mpr c23
                           have H' := Aside0.mk H
                           clear H
                           have p109 : 0 ≤ (x46_3 : Int) := zD
                           have q109 : x46_3 < (x6_2.length : Int) := zD
                           obtain ⟨ad109, e109, hx109_0⟩ := Kd.at_int (Kd.R_reads' HO_6.out).2.2 x46_3 p109 q109
                           cases e109
                           replace p109 := eq_true p109
                           replace q109 := eq_true q109
                           go_wp2
                           go_roundg k3
                           case measure => have := HK1.out; have := HK2.out; have := HK3.out; omega
                           case rel => exact ⟨(wrap64 (x46_3 + 1)), zF, H', ⟨by have := HK1.out; have := HK2.out; have := HK3.out; omega⟩, ⟨zR HO_6.out⟩, ⟨zB⟩⟩
                       · rw [if_neg c22] at H
                         exact absurd H (by simp)
                     · rw [if_neg c21] at H
                       exact absurd H (by simp)
                   · rw [if_neg c20] at H
                     have c20b0 : decide (x46_3 < (x6_2.length : Int)) = false := decide_eq_false c20
                     clear c20
                     simp only [Option.some.injEq, Prod.mk.injEq] at H
                     obtain ⟨rfl, rfl⟩ := H
                     go_wp2
                     go_ret2
                     exact ⟨_, by first | rfl | (simp [errW_none, errW_some] <;> rfl) | (simp only [← hji6]; first | rfl | (simp [errW_none, errW_some] <;> rfl)) | (simp [*, errW_none, errW_some] <;> rfl), zR HO_6.out, zB⟩
       · rw [if_neg c8] at H
         exact absurd H (by simp)
     · rw [if_neg c7] at H
       exact absurd H (by simp)
end Go.Proofs.Ytfmjckkgnieccaa.P
end
section
namespace Go.Proofs.Ytfmjckkgnieccaa.P
open Go.RowKit Go.Proofs.YtfmjckkgnieccaaW.PrintWords Go.Proofs.YtfmjckkgnieccaaW.PrintLast Go.Proofs.YtfmjckkgnieccaaW.PrintMore
attribute [local go_sem] max2_int min2_int max_two min_two max_three min_three max_four min_four   -- for this text's walks alone
set_option linter.unusedVariables false
set_option linter.unusedSimpArgs false
def spec_l07Given.f (k : Nat) (l0 : List Int) : Option (List Int × Int) := (spec_l01Turns.f k l0 8).bind fun t101 => (if t101 = true then ((spec_l07Shares.f k l0).bind fun bt102 => (if bt102.2 = true then (some (bt102.1, 0)) else (some (([] : List Int), 5)))) else (some (([] : List Int), 2)))
theorem spec_l07Given.mono : ∀ a0 k, LeO (spec_l07Given.f k a0) (spec_l07Given.f (k + 1) a0) := by
  intro a0 k
  unfold spec_l07Given.f
  repeat' first | (with_reducible exact spec_l01Turns.mono _ _ _) | (with_reducible exact spec_l07Shares.mono _ _) | (with_reducible exact LeO.refl _) | (with_reducible exact LeO.none _) | (with_reducible refine LeO.ite ?_ ?_) | (with_reducible refine LeO.bind ?_ (fun _ => ?_)) | exact spec_l01Turns.mono _ _ _ | exact spec_l07Shares.mono _ _ | exact LeO.none _ | refine LeO.ite ?_ ?_ | refine LeO.bind ?_ (fun _ => ?_)
set_option maxHeartbeats 8000000 in
set_option maxRecDepth 100000 in
theorem spec_l07Given.calls (k : Nat) (A0 : Option Addr) (c0 : Nat) (l0 : List Int) (r1 : List Int) (r2 : Int) (w : World) (hr0 : Kd.C (Kd.int .i64) w A0 l0.length l0) (hc0 : l0.length ≤ c0) (h : spec_l07Given.f k l0 = some (r1, r2)) :
    Calls Try.prog 31 #[.slice A0 l0.length c0] w fun e w' => ∃ v0_ : Value, e = .returned (.tuple #[v0_, .int .i64 r2]) ∧ Kd.R (Kd.int .i64) 2 w' w.heap.size (fun _ => True) v0_ r1 ∧ Below w.heap.size w w' := by
 have HR0 := Aside0.mk hr0
 have HC0 := Aside0.mk hc0
 clear hr0 hc0
 have HB := Aside0.mk (Below.refl w.heap.size w)
 have H : ((spec_l01Turns.f k l0 8).bind fun t101 => (if t101 = true then ((spec_l07Shares.f k l0).bind fun bt102 => (if bt102.2 = true then (some (bt102.1, 0)) else (some (([] : List Int), 5)))) else (some (([] : List Int), 2)))) = some (r1, r2) := h
 clear h
 replace H := Option.bind_eq_some_iff.mp H
 obtain ⟨t101, A20, H⟩ := H
 replace H : (if t101 = true then ((spec_l07Shares.f k l0).bind fun bt102 => (if bt102.2 = true then (some (bt102.1, 0)) else (some (([] : List Int), 5)))) else (some (([] : List Int), 2))) = some (r1, r2) := H
 have A2 := Aside0.mk A20
 clear A20
 by_cases c3 : t101 = true
 ·
  subst c3
  have H1 : ((spec_l07Shares.f k l0).bind fun bt102 => (if bt102.2 = true then (some (bt102.1, 0)) else (some (([] : List Int), 5)))) = some (r1, r2) := by rw [if_pos rfl] at H; exact H
  clear H
  have H := H1
  clear H1
  replace H := Option.bind_eq_some_iff.mp H
  obtain ⟨⟨t102, t103⟩, A40, H⟩ := H
  replace H : (if t103 = true then (some (t102, 0)) else (some (([] : List Int), 5))) = some (r1, r2) := H
  have A4 := Aside0.mk A40
  clear A40
  by_cases c5 : t103 = true
  ·
   subst c5
   have H1 : (some (t102, 0)) = some (r1, r2) := by rw [if_pos rfl] at H; exact H
   clear H
   have H := H1
   clear H1
   simp only [Option.some.injEq, Prod.mk.injEq] at H
   obtain ⟨rfl, rfl⟩ := H
   go_enter Try.func31, Try.ntmps31
   go_wp2_with (first | ((with_reducible refine gate_callee (f := 41) rfl ?_); refine goesL_ (some 7) rfl rfl Try.func41 zk rfl #[.slice A0 l0.length c0, .int .i64 8] rfl zA ?_; (with_reducible refine (spec_l01Turns.calls k _ _ l0 8 true _ ?side1 ?side2 A2.out).mono ?_); (case side1 => exact zC HR0.out); (case side2 => exact HC0.out); rintro e w' ⟨rfl, ⟨nd, rfl⟩⟩; refine ⟨_, rfl, ?_⟩) | ((with_reducible refine gate_callee (f := 61) rfl ?_); refine goesL_ (some 11) rfl rfl Try.func61 zk rfl #[.slice A0 l0.length c0] rfl zA ?_; (with_reducible refine (spec_l07Shares.calls k _ _ l0 t102 true _ ?side1 ?side2 A4.out).mono ?_); (case side1 => exact zC HR0.out); (case side2 => exact HC0.out); rintro e w6 ⟨v104, rfl, ho0, hb⟩; refine ⟨_, rfl, ?_⟩; have n_ := y2 (Kd.R_lower ho0 (below_size (zB))) (below_step (zB) hb); clear HB; obtain ⟨HO105, HB⟩ := n_; (try clear hb); (try clear hb2); (try clear hk); (try clear hi); (try clear ho0)))
   go_ret2
   exact ⟨_, zE, zR HO105.out, zB⟩
  replace c5 := Bool.eq_false_iff.mpr c5
  subst c5
  have H1 : (some (([] : List Int), 5)) = some (r1, r2) := by rw [if_neg (show ¬ (false = true) by decide)] at H; exact H
  clear H
  have H := H1
  clear H1
  simp only [Option.some.injEq, Prod.mk.injEq] at H
  obtain ⟨rfl, rfl⟩ := H
  go_enter Try.func31, Try.ntmps31
  go_wp2_with (first | ((with_reducible refine gate_callee (f := 41) rfl ?_); refine goesL_ (some 7) rfl rfl Try.func41 zk rfl #[.slice A0 l0.length c0, .int .i64 8] rfl zA ?_; (with_reducible refine (spec_l01Turns.calls k _ _ l0 8 true _ ?side1 ?side2 A2.out).mono ?_); (case side1 => exact zC HR0.out); (case side2 => exact HC0.out); rintro e w' ⟨rfl, ⟨nd, rfl⟩⟩; refine ⟨_, rfl, ?_⟩) | ((with_reducible refine gate_callee (f := 61) rfl ?_); refine goesL_ (some 11) rfl rfl Try.func61 zk rfl #[.slice A0 l0.length c0] rfl zA ?_; (with_reducible refine (spec_l07Shares.calls k _ _ l0 t102 false _ ?side1 ?side2 A4.out).mono ?_); (case side1 => exact zC HR0.out); (case side2 => exact HC0.out); rintro e w7 ⟨v104, rfl, ho0, hb⟩; refine ⟨_, rfl, ?_⟩; have n_ := y2 (Kd.R_lower ho0 (below_size (zB))) (below_step (zB) hb); clear HB; obtain ⟨HO105, HB⟩ := n_; (try clear hb); (try clear hb2); (try clear hk); (try clear hi); (try clear ho0)))
  go_ret2
  exact ⟨_, zE, zN, zB⟩
 replace c3 := Bool.eq_false_iff.mpr c3
 subst c3
 have H1 : (some (([] : List Int), 2)) = some (r1, r2) := by rw [if_neg (show ¬ (false = true) by decide)] at H; exact H
 clear H
 have H := H1
 clear H1
 simp only [Option.some.injEq, Prod.mk.injEq] at H
 obtain ⟨rfl, rfl⟩ := H
 go_enter Try.func31, Try.ntmps31
 go_wp2_with (first | ((with_reducible refine gate_callee (f := 41) rfl ?_); refine goesL_ (some 7) rfl rfl Try.func41 zk rfl #[.slice A0 l0.length c0, .int .i64 8] rfl zA ?_; (with_reducible refine (spec_l01Turns.calls k _ _ l0 8 false _ ?side1 ?side2 A2.out).mono ?_); (case side1 => exact zC HR0.out); (case side2 => exact HC0.out); rintro e w' ⟨rfl, ⟨nd, rfl⟩⟩; refine ⟨_, rfl, ?_⟩))
 go_ret2
 exact ⟨_, zE, zN, zB⟩
end Go.Proofs.Ytfmjckkgnieccaa.P
end
section
namespace Go.Proofs.Ytfmjckkgnieccaa.P
open Go.RowKit Go.Proofs.YtfmjckkgnieccaaW.PrintWords Go.Proofs.YtfmjckkgnieccaaW.PrintLast Go.Proofs.YtfmjckkgnieccaaW.PrintMore
attribute [local go_sem] max2_int min2_int max_two min_two max_three min_three max_four min_four   -- for this text's walks alone
set_option linter.unusedVariables false
set_option linter.unusedSimpArgs false
def spec_l07Exchanged.f (l0 : List Int) (a1 : Int) (a2 : Int) : Option (List Int) := (spec_l01Own.f l0).bind fun t101 => (if 0 ≤ a2 then (if a2 < (l0.length : Int) then (if 0 ≤ a1 then (if a1 < (t101.length : Int) then (if a1 < (l0.length : Int) then (if a2 < (t101.length : Int) then (some ((t101.set (a1 : Int).toNat (rd l0 a2)).set (a2 : Int).toNat (rd l0 a1))) else (none)) else (none)) else (none)) else (none)) else (none)) else (none))
set_option maxHeartbeats 8000000 in
set_option maxRecDepth 100000 in
theorem spec_l07Exchanged.calls (A0 : Option Addr) (c0 : Nat) (l0 : List Int) (a1 : Int) (a2 : Int) (r : List Int) (w : World) (hr0 : Kd.C (Kd.int .i64) w A0 l0.length l0) (hc0 : l0.length ≤ c0) (h : spec_l07Exchanged.f l0 a1 a2 = some r) :
    Calls Try.prog 34 #[.slice A0 l0.length c0, .int .i64 a1, .int .i64 a2] w fun e w' => ∃ v0_ : Value, e = .returned (v0_) ∧ Kd.R (Kd.int .i64) 2 w' w.heap.size (fun _ => True) v0_ r ∧ Below w.heap.size w w' := by
 have HR0 := Aside0.mk hr0
 have HC0 := Aside0.mk hc0
 clear hr0 hc0
 have HB := Aside0.mk (Below.refl w.heap.size w)
 have H : ((spec_l01Own.f l0).bind fun t101 => (if 0 ≤ a2 then (if a2 < (l0.length : Int) then (if 0 ≤ a1 then (if a1 < (t101.length : Int) then (if a1 < (l0.length : Int) then (if a2 < (t101.length : Int) then (some ((t101.set (a1 : Int).toNat (rd l0 a2)).set (a2 : Int).toNat (rd l0 a1))) else (none)) else (none)) else (none)) else (none)) else (none)) else (none))) = some r := h
 clear h
 replace H := Option.bind_eq_some_iff.mp H
 obtain ⟨t101, A40, H⟩ := H
 replace H : (if 0 ≤ a2 then (if a2 < (l0.length : Int) then (if 0 ≤ a1 then (if a1 < (t101.length : Int) then (if a1 < (l0.length : Int) then (if a2 < (t101.length : Int) then (some ((t101.set (a1 : Int).toNat (rd l0 a2)).set (a2 : Int).toNat (rd l0 a1))) else (none)) else (none)) else (none)) else (none)) else (none)) else (none)) = some r := H
 have A4 := Aside0.mk A40
 clear A40
 by_cases c5 : 0 ≤ a2
 case neg => rw [if_neg c5] at H; exact absurd H (by simp)
 rw [if_pos c5] at H
 have c5b0 : decide (0 ≤ a2) = true := decide_eq_true c5
 clear c5
 by_cases c6 : a2 < (l0.length : Int)
 case neg => rw [if_neg c6] at H; exact absurd H (by simp)
 rw [if_pos c6] at H
 have c6b0 : decide (a2 < (l0.length : Int)) = true := decide_eq_true c6
 clear c6
 by_cases c7 : 0 ≤ a1
 case neg => rw [if_neg c7] at H; exact absurd H (by simp)
 rw [if_pos c7] at H
 have c7b0 : decide (0 ≤ a1) = true := decide_eq_true c7
 clear c7
 by_cases c8 : a1 < (t101.length : Int)
 case neg => rw [if_neg c8] at H; exact absurd H (by simp)
 rw [if_pos c8] at H
 have c8b0 : decide (a1 < (t101.length : Int)) = true := decide_eq_true c8
 clear c8
 obtain ⟨y105, hy105⟩ : ∃ y_ : List Int, y_ = (t101.set (a1 : Int).toNat (rd l0 a2)) := ⟨_, rfl⟩
 replace H : (if a1 < (l0.length : Int) then (if a2 < (t101.length : Int) then (some (y105.set (a2 : Int).toNat (rd l0 a1))) else (none)) else (none)) = some r := zH hy105
 have Ny105 := Aside0.mk hy105
 clear hy105
 by_cases c10 : a1 < (l0.length : Int)
 case neg => rw [if_neg c10] at H; exact absurd H (by simp)
 rw [if_pos c10] at H
 have c10b0 : decide (a1 < (l0.length : Int)) = true := decide_eq_true c10
 clear c10
 by_cases c11 : a2 < (t101.length : Int)
 case neg => rw [if_neg c11] at H; exact absurd H (by simp)
 rw [if_pos c11] at H
 have c11b0 : decide (a2 < (t101.length : Int)) = true := decide_eq_true c11
 clear c11
 obtain ⟨y107, hy107⟩ : ∃ y_ : List Int, y_ = (y105.set (a2 : Int).toNat (rd l0 a1)) := ⟨_, rfl⟩
 replace H : (some y107) = some r := zH hy107
 have Ny107 := Aside0.mk hy107
 clear hy107
 obtain rfl := Option.some.inj H
 go_enter Try.func34, Try.ntmps34
 go_wp2_with (first | ((with_reducible refine gate_callee (f := 32) rfl ?_); refine goesL_ (some 9) rfl rfl Try.func32 zk rfl #[.slice A0 l0.length c0] rfl zA ?_; (with_reducible refine (spec_l01Own.calls _ _ l0 t101 _ ?side1 ?side2 A4.out).mono ?_); (case side1 => exact zC HR0.out); (case side2 => exact HC0.out); rintro e w13 ⟨v102, rfl, ho0, hb⟩; refine ⟨_, rfl, ?_⟩; have n_ := y2 (Kd.R_lower ho0 (below_size (zB))) (below_step (zB) hb); clear HB; obtain ⟨HO103, HB⟩ := n_; (try clear hb); (try clear hb2); (try clear hk); (try clear hi); (try clear ho0); have p104 : 0 ≤ (a2 : Int) := zD; have q104 : a2 < (l0.length : Int) := zD; obtain ⟨ad104, e104, hx104_0⟩ := Kd.at_int HR0.out a2 p104 q104; cases e104; replace hx104_0 := (HB.out.cell (World.block_lt_of_cell? w _ hx104_0)).trans hx104_0; replace p104 := eq_true p104; replace q104 := eq_true q104; have p9 : 0 ≤ (a1 : Int) := zD; have q9 : (a1 : Int) < ((t101.length : Int) : Int) := zD; obtain ⟨go9, co9, eo9, gb9, gl9, cl9, HG9⟩ := Kd.R_form HO103.out (by omega); (first | cases eo9 | (injection eo9 with ea_ en_ ec_; (first | subst ea_ | (injection ea_ with ea_; subst ea_)); subst ec_; clear en_)); have GB9 := Aside0.mk gb9; have GG9 := Aside0.mk HG9; clear gb9 gl9 HG9; obtain ⟨hx9_0, hf9_0⟩ := Kd.R_celln 0 HO103.out (a1 : Int) p9 q9; replace p9 := eq_true p9; replace q9 := eq_true q9; obtain ⟨hy14_, hz14_⟩ := Kd.R_celln 0 HO103.out (a1 : Int) (zD) (zD); have HP14 := Kd.R_putg HO103.out (a1 : Int) (rd l0 a2)) | ((with_reducible refine gate_store (t := 2) (p := 16) rfl ?_); refine store_event (t := 2) (p := 16) (v := ?vo_w15) (w1 := (w13.setCell ⟨go9, (a1 : Int).toNat, none⟩ (.int .i64 (rd l0 a2)))) ?hg ?ho ?hn ?hr ?_; (case ho => rfl); (case hg => rfl); (case hn => rfl); (case hr => first | (go_simp; done) | (go_simp; rfl)); intro w15 hw; have hg : w13.grownBy w15 (some go9) := (by rw [hw]; exact HP14.2); have hp_ : Kd.R (Kd.int .i64) 2 w15 w.heap.size (fun _ => True) (.slice (some ⟨go9, 0, none⟩) t101.length co9) y105 := (by rw [hw, Ny105.out]; exact HP14.1); clear HP14; have n_ := y2 (hp_) ((by rw [hw]; exact below_set (HB.out) GB9.out : Below w.heap.size w w15)); clear HO103 HB; obtain ⟨HO103, HB⟩ := n_; clear hg hw hp_; have p106 : 0 ≤ (a1 : Int) := zD; have q106 : a1 < (l0.length : Int) := zD; obtain ⟨ad106, e106, hx106_0⟩ := Kd.at_int HR0.out a1 p106 q106; obtain rfl : ad104 = ad106 := (by injection e106); replace hx106_0 := (HB.out.cell (World.block_lt_of_cell? w _ hx106_0)).trans hx106_0; replace p106 := eq_true p106; replace q106 := eq_true q106; have p12 : 0 ≤ (a2 : Int) := zD; have q12 : (a2 : Int) < ((t101.length : Int) : Int) := zD; obtain ⟨hx12_0, hf12_0⟩ := Kd.R_celln 0 HO103.out (a2 : Int) p12 q12; replace p12 := eq_true p12; replace q12 := eq_true q12; obtain ⟨hy16_, hz16_⟩ := Kd.R_celln 0 HO103.out (a2 : Int) (zD) (zD); have HP16 := Kd.R_putg HO103.out (a2 : Int) (rd l0 a1)) | ((with_reducible refine gate_store (t := 2) (p := 23) rfl ?_); refine store_event (t := 2) (p := 23) (v := ?vo_w17) (w1 := (w15.setCell ⟨go9, (a2 : Int).toNat, none⟩ (.int .i64 (rd l0 a1)))) ?hg ?ho ?hn ?hr ?_; (case ho => rfl); (case hg => rfl); (case hn => rfl); (case hr => first | (go_simp; done) | (go_simp; rfl)); intro w17 hw; have hg : w15.grownBy w17 (some go9) := (by rw [hw]; exact HP16.2); have hp_ : Kd.R (Kd.int .i64) 2 w17 w.heap.size (fun _ => True) (.slice (some ⟨go9, 0, none⟩) t101.length co9) y107 := (by rw [hw, Ny107.out]; exact HP16.1); clear HP16; have n_ := y2 (hp_) ((by rw [hw]; exact below_set (HB.out) GB9.out : Below w.heap.size w w17)); clear HO103 HB; obtain ⟨HO103, HB⟩ := n_; clear hg hw hp_))
 go_ret
 exact ⟨_, zE, zR HO103.out, zB⟩
end Go.Proofs.Ytfmjckkgnieccaa.P
end
section
namespace Go.Proofs.Ytfmjckkgnieccaa.P
open Go.RowKit Go.Proofs.YtfmjckkgnieccaaW.PrintWords Go.Proofs.YtfmjckkgnieccaaW.PrintLast Go.Proofs.YtfmjckkgnieccaaW.PrintMore
attribute [local go_sem] max2_int min2_int max_two min_two max_three min_three max_four min_four   -- for this text's walks alone
set_option linter.unusedVariables false
set_option linter.unusedSimpArgs false
mutual
def spec_l07Differences.l0 : Nat → List Int → List Int → Int → List (List Int) → Int → Option ((List (List Int)))
  | 0, _, _, _, _, _ => none
  | k + 1, x0, x1, x5, x6, x7 => if x7 < (x0.length : Int) then (if 0 ≤ x7 then (if x7 < (x6.length : Int) then ((spec_l01Own.f (rd_L2 x6 x7)).bind fun t108 => (spec_l07Differences.l1 k x0 x1 x5 x6 x7 t108 (t108.length : Int) 0)) else (none)) else (none)) else (some x6)
def spec_l07Differences.l1 : Nat → List Int → List Int → Int → List (List Int) → Int → List Int → Int → Int → Option ((List (List Int)))
  | 0, _, _, _, _, _, _, _, _ => none
  | k + 1, x0, x1, x5, x6, x7, x8, x28, x29 => if x29 < x28 then (if 0 ≤ x29 then (if x29 < (x8.length : Int) then (if x29 < (x1.length : Int) then (spec_l07Differences.l1 k x0 x1 x5 x6 x7 (x8.set (x29 : Int).toNat (wrap64 ((rd x8 x29) - (rd x1 x29)))) x28 (wrap64 (x29 + 1))) else (none)) else (none)) else (none)) else (if 0 ≤ x7 then (if x7 < (x0.length : Int) then (if 0 ≤ (rd x0 x7) then (if (rd x0 x7) < (x8.length : Int) then (if x6.length < 5864062014805 then (spec_l07Differences.l0 k x0 x1 x5 (x6 ++ [(x8.set ((rd x0 x7) : Int).toNat (wrap64 ((rd x8 (rd x0 x7)) + x5)))]) (wrap64 (x7 + 1))) else (none)) else (none)) else (none)) else (none)) else (none))
end
def spec_l07Differences.f (k : Nat) (l0 : List Int) (l1 : List Int) : Option ((List (List Int))) := if 0 ≤ (l1.length : Int) then (if ((l1.length : Int) : Int).toNat ≤ 35184372088832 then (spec_l07Differences.l0 k l0 l1 (l0.length : Int) (([(List.replicate ((l1.length : Int) : Int).toNat 0)] : List (List Int))) 0) else (none)) else (none)
theorem spec_l07Differences.mono_l : ∀ k, (∀ y0 y1 y2 y3 y4, LeO (spec_l07Differences.l0 k y0 y1 y2 y3 y4) (spec_l07Differences.l0 (k + 1) y0 y1 y2 y3 y4)) ∧ (∀ y0 y1 y2 y3 y4 y5 y6 y7, LeO (spec_l07Differences.l1 k y0 y1 y2 y3 y4 y5 y6 y7) (spec_l07Differences.l1 (k + 1) y0 y1 y2 y3 y4 y5 y6 y7))
  | 0 => ⟨fun _ _ _ _ _ r h => by simp [spec_l07Differences.l0] at h, fun _ _ _ _ _ _ _ _ r h => by simp [spec_l07Differences.l1] at h⟩
  | k + 1 => by
    obtain ⟨ih0, ih1⟩ := spec_l07Differences.mono_l k
    refine ⟨?_, ?_⟩ <;> intros <;> (first | unfold spec_l07Differences.l0 | unfold spec_l07Differences.l1) <;> repeat' first | (with_reducible exact ih0 _ _ _ _ _) | (with_reducible exact ih1 _ _ _ _ _ _ _ _) | (with_reducible exact LeO.refl _) | (with_reducible exact LeO.none _) | (with_reducible refine LeO.ite ?_ ?_) | (with_reducible refine LeO.bind ?_ (fun _ => ?_)) | exact ih0 _ _ _ _ _ | exact ih1 _ _ _ _ _ _ _ _ | exact LeO.none _ | refine LeO.ite ?_ ?_ | refine LeO.bind ?_ (fun _ => ?_)
theorem spec_l07Differences.mono : ∀ a0 a1 k, LeO (spec_l07Differences.f k a0 a1) (spec_l07Differences.f (k + 1) a0 a1) := by
  intro a0 a1 k
  obtain ⟨ih0, ih1⟩ := spec_l07Differences.mono_l k
  unfold spec_l07Differences.f
  repeat' first | (with_reducible exact ih0 _ _ _ _ _) | (with_reducible exact ih1 _ _ _ _ _ _ _ _) | (with_reducible exact LeO.refl _) | (with_reducible exact LeO.none _) | (with_reducible refine LeO.ite ?_ ?_) | (with_reducible refine LeO.bind ?_ (fun _ => ?_)) | exact ih0 _ _ _ _ _ | exact ih1 _ _ _ _ _ _ _ _ | exact LeO.none _ | refine LeO.ite ?_ ?_ | refine LeO.bind ?_ (fun _ => ?_)
def spec_l07Differences.T1 : Bool × List (List Nat × List Nat) := (true, [([], []), ([0], [0]), ([], []), ([2], [2]), ([3, 3], [3]), ([4], [4]), ([1, 0, 1], [1]), ([5, 6, 0, 1, 2, 3, 4, 5, 6], [5])])
def spec_l07Differences.B1 : List Nat := [0, 1, 0, 4, 12, 28, 3, 127]
theorem spec_l07Differences.tab1 : rtab .any (opsOf Try.f63 1) = spec_l07Differences.T1 := by kernel_rfl
theorem spec_l07Differences.bits1 : waitsOk spec_l07Differences.T1.2 spec_l07Differences.B1 = true := by kernel_rfl
def spec_l07Differences.T9 : Bool × List (List Nat × List Nat) := (true, [([], []), ([], []), ([], []), ([], []), ([2, 3], [2, 3]), ([4], [4]), ([], []), ([], []), ([6, 7], [6, 7]), ([8], [8]), ([5, 9], [5, 9]), ([0, 1, 0, 1, 2, 3, 4, 5, 6, 7, 8, 9, 10], [0, 1]), ([11, 10, 0, 1, 2, 3, 4, 5, 6, 7, 8, 9, 10], [10, 11])])
def spec_l07Differences.B9 : List Nat := [0, 0, 0, 0, 12, 28, 0, 0, 192, 448, 1020, 2047, 4095]
theorem spec_l07Differences.tab9 : rtab .any (opsOf Try.f63 9) = spec_l07Differences.T9 := by kernel_rfl
theorem spec_l07Differences.bits9 : waitsOk spec_l07Differences.T9.2 spec_l07Differences.B9 = true := by kernel_rfl
def spec_l07Differences.T11 : Bool × List (List Nat × List Nat) := (true, [([], []), ([], []), ([], []), ([1, 2], [1, 2]), ([3], [3]), ([], []), ([], []), ([], []), ([6, 7], [6, 7]), ([8], [8]), ([5, 9], [5, 9]), ([10], [10]), ([], []), ([11, 12], [11, 12]), ([0, 4, 0, 1, 2, 3, 4, 5, 6, 7, 8, 9, 10, 11, 12, 13], [0, 4]), ([14, 13, 0, 1, 2, 3, 4, 5, 6, 7, 8, 9, 10, 11, 12, 13], [13, 14])])
def spec_l07Differences.B11 : List Nat := [0, 0, 0, 6, 14, 0, 0, 0, 192, 448, 992, 2016, 0, 8160, 16383, 32767]
theorem spec_l07Differences.tab11 : rtab .any (opsOf Try.f63 11) = spec_l07Differences.T11 := by kernel_rfl
theorem spec_l07Differences.bits11 : waitsOk spec_l07Differences.T11.2 spec_l07Differences.B11 = true := by kernel_rfl
end Go.Proofs.Ytfmjckkgnieccaa.P
end
