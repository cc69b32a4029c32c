/- Towers are at least the sum of the rates, and heights are those that cuts leave. -/
import Derived.Test.YtgmciimgmnnhmaaCFnGardens3
section
namespace Go.Proofs.Ytgmciimgmnnhmaa.P
open Go.RowKit Go.Proofs.YtgmciimgmnnhmaaW.PrintWords Go.Proofs.YtgmciimgmnnhmaaW.PrintLast Go.Proofs.YtgmciimgmnnhmaaW.PrintMore
attribute [local go_sem] max2_int min2_int max_two min_two max_three min_three max_four min_four   -- for this text's walks alone
set_option linter.unusedVariables false
set_option linter.unusedSimpArgs false
set_option maxHeartbeats 8000000 in
set_option maxRecDepth 100000 in
theorem spec_l06Bad.calls (g : Nat) (s0_0 : List Int) (s0_1 : Int) (s0_2 : Int) (P1_0_ : Nat → Prop) (u9000_ : Value) (l1_0 : List Int) (r1 : List Int) (r2 : Int) (r3 : Int) (w0 w : World) (hI : IsS68 w0 w g s0_0 s0_1 s0_2) (hB : Below w0.heap.size w0 w) (ho1_0 : Kd.R (Kd.int .i64) 2 w w0.heap.size P1_0_ u9000_ l1_0) (h : spec_l06Bad.f s0_0 s0_1 s0_2 l1_0 = some (r1, r2, r3)) :
    Calls Try.prog 61 #[.pointer (some ⟨g, 0, none⟩), .agg #[u9000_]] w fun e w' => ∃ v0_ : Value, e = .returned (.agg #[v0_]) ∧ Kd.R (Kd.int .i64) 2 w' w0.heap.size (fun k_ => (P1_0_ k_ ∨ w.heap.size ≤ k_)) v0_ r1 ∧ IsS68 w0 w' g s0_0 r2 r3 ∧ Below w0.heap.size w0 w' ∧ Kept w w' (fun k_ => (P1_0_ k_) ∨ k_ = g) := by
 have hu26 := Try.underlying26
 have HO1_0 := Aside0.mk (show Kd.R (Kd.int .i64) 2 w w0.heap.size (fun k_ => (P1_0_ k_ ∨ w.heap.size ≤ k_)) u9000_ l1_0 from Kd.R_mono ho1_0 (fun k_ hk => (.inl hk)))
 have HI0 := Aside0.mk hI
 have HL := Aside0.mk hB.size
 clear hI
 have HK := Aside0.mk (Kept.refl w (fun k_ => (P1_0_ k_) ∨ k_ = g))
 have HW0 := Aside0.mk hB.size
 have HB := Aside0.mk hB
 clear hB
 have H : ((spec_l01Next.f s0_0 s0_1 s0_2 40).bind fun bt103 => (if bt103.1 = 0 then ((spec_l01Own.f l1_0).bind fun t106 => ((spec_l01Pick.f s0_0 bt103.2.1 bt103.2.2 (([0, 21, (-1)] : List Int))).bind fun bt112 => (if t106.length < 17592186044416 then (some ((t106 ++ [bt112.1]), bt112.2.1, bt112.2.2)) else (none)))) else (if bt103.1 = 1 then (some ((([] : List Int)), bt103.2.1, bt103.2.2)) else (some (l1_0, bt103.2.1, bt103.2.2))))) = some (r1, r2, r3) := h
 clear h
 replace H := Option.bind_eq_some_iff.mp H
 obtain ⟨⟨t103, t104, t105⟩, A30, H⟩ := H
 replace H : (if t103 = 0 then ((spec_l01Own.f l1_0).bind fun t106 => ((spec_l01Pick.f s0_0 t104 t105 (([0, 21, (-1)] : List Int))).bind fun bt112 => (if t106.length < 17592186044416 then (some ((t106 ++ [bt112.1]), bt112.2.1, bt112.2.2)) else (none)))) else (if t103 = 1 then (some ((([] : List Int)), t104, t105)) else (some (l1_0, t104, t105)))) = some (r1, r2, r3) := H
 have A3 := Aside0.mk A30
 clear A30
 by_cases c4 : t103 = 0
 ·
  rw [if_pos c4] at H
  have c4b0 : (t103 == 0) = true := beq_iff_eq.mpr c4
  have c4b1 : (t103 != 0) = false := bne_eq_false_iff_eq.mpr c4
  clear c4
  replace H := Option.bind_eq_some_iff.mp H
  obtain ⟨t106, A50, H⟩ := H
  replace H : ((spec_l01Pick.f s0_0 t104 t105 (([0, 21, (-1)] : List Int))).bind fun bt112 => (if t106.length < 17592186044416 then (some ((t106 ++ [bt112.1]), bt112.2.1, bt112.2.2)) else (none))) = some (r1, r2, r3) := H
  have A5 := Aside0.mk A50
  clear A50
  obtain ⟨y109, hy109⟩ : ∃ y_ : List Int, y_ = (([0, 21, (-1)] : List Int)) := ⟨_, rfl⟩
  replace H : ((spec_l01Pick.f s0_0 t104 t105 y109).bind fun bt112 => (if t106.length < 17592186044416 then (some ((t106 ++ [bt112.1]), bt112.2.1, bt112.2.2)) else (none))) = some (r1, r2, r3) := zH hy109
  have Ny109 := Aside0.mk hy109
  clear hy109
  replace H := Option.bind_eq_some_iff.mp H
  obtain ⟨⟨t112, t113, t114⟩, A60, H⟩ := H
  replace H : (if t106.length < 17592186044416 then (some ((t106 ++ [t112]), t113, t114)) else (none)) = some (r1, r2, r3) := H
  have A6 := Aside0.mk A60
  clear A60
  by_cases c7 : t106.length < 17592186044416
  case neg => rw [if_neg c7] at H; exact absurd H (by simp)
  rw [if_pos c7] at H
  have LMc7 := Aside0.mk c7
  clear c7
  obtain ⟨y115, hy115⟩ : ∃ y_ : List Int, y_ = (t106 ++ [t112]) := ⟨_, rfl⟩
  replace H : (some (y115, t113, t114)) = some (r1, r2, r3) := zH hy115
  have Ny115 := Aside0.mk hy115
  clear hy115
  simp only [Option.some.injEq, Prod.mk.injEq] at H
  obtain ⟨rfl, rfl, rfl⟩ := H
  obtain ⟨Ao8, co8, eo8⟩ := Kd.R_slice HO1_0.out
  subst eo8
  go_enter Try.func61, Try.ntmps61
  go_wp2_with (first | ((with_reducible refine gate_dst (N := 3) rfl ?_); refine box_event zr (N := 3) zr (cs := #[.slice Ao8 l1_0.length co8]) (t := 26) zg ?_; intro gb101 hg w9 hbox hb; have n_ := y9 (Kd.R_below (zR HO1_0.out) hb) (IsS68.below (zI) hb) (Kept.below (S := (fun k_ => (P1_0_ k_) ∨ k_ = g)) (zJ) hb) (below_step (zB) hb) (hbox) ((by rw [hg]; exact (by first | exact HK.out.1 | exact (show Kept w _ (fun k_ => (P1_0_ k_) ∨ k_ = g) from zJ).1) : w.heap.size ≤ gb101)) ((zS hg : w0.heap.size ≤ gb101)) ((by rw [hg]; exact Nat.ne_of_lt (IsS68.lt (show IsS68 w0 _ g s0_0 s0_1 s0_2 from zI)) : g ≠ gb101)) ((by rw [hg]; exact Nat.ne_of_gt (IsS68.lt (show IsS68 w0 _ g s0_0 s0_1 s0_2 from zI)) : gb101 ≠ g)); clear HO1_0 HI0 HK HB; obtain ⟨HO1_0, HI0, HK, HB, BK101, GW101, GE101, NB0_101, NB101_0⟩ := n_; clear hb hbox hg) | ((with_reducible refine gate_dst (N := 4) rfl ?_); refine box_event zr (N := 4) zr (cs := #[.slice none 0 0]) (t := 26) zg ?_; intro gb102 hg w10 hbox hb; have n_ := y12 (Kd.R_below (zR HO1_0.out) hb) (IsS68.below (zI) hb) (zb BK101.out hb) (Kept.below (S := (fun k_ => (P1_0_ k_) ∨ k_ = g)) (zJ) hb) (below_step (zB) hb) (hbox) ((by rw [hg]; exact (by first | exact HK.out.1 | exact (show Kept w _ (fun k_ => (P1_0_ k_) ∨ k_ = g) from zJ).1) : w.heap.size ≤ gb102)) ((zS hg : w0.heap.size ≤ gb102)) ((zL hg BK101.out : gb101 ≠ gb102)) ((zM hg BK101.out : gb102 ≠ gb101)) ((by rw [hg]; exact Nat.ne_of_lt (IsS68.lt (show IsS68 w0 _ g s0_0 s0_1 s0_2 from zI)) : g ≠ gb102)) ((by rw [hg]; exact Nat.ne_of_gt (IsS68.lt (show IsS68 w0 _ g s0_0 s0_1 s0_2 from zI)) : gb102 ≠ g)); clear HO1_0 HI0 BK101 HK HB; obtain ⟨HO1_0, HI0, BK101, HK, HB, BK102, GW102, GE102, NB101_102, NB102_101, NB0_102, NB102_0⟩ := n_; clear hb hbox hg) | ((with_reducible refine gate_callee (f := 60) rfl ?_); refine goesL_ (some 6) rfl rfl Try.func60 zk rfl #[.pointer (some ⟨g, 0, none⟩), .int .i64 40] rfl zA ?_; (with_reducible refine (spec_l01Next.calls g s0_0 s0_1 s0_2 40 t103 t104 t105 w0 _ ?side1 ?side2 A3.out).mono ?_); (case side1 => exact zI); (case side2 => exact zB); rintro e w11 ⟨rfl, hi, hb, hk⟩; refine ⟨_, rfl, ?_⟩; have n_ := y6 (Kd.R_mono (Kd.R_keep (IsS68.apart (show IsS68 w0 _ g s0_0 s0_1 s0_2 from zI) (zR HO1_0.out) (by decide)) hk (fun _ h => h.2)) (fun _ h => h.1)) (KeepBut.blk hk (g' := gb101) (o := .cells #[.slice Ao8 l1_0.length co8] 26 (0, 0)) (zG BK101.out) NB101_0.out (by simp)) (KeepBut.blk hk (g' := gb102) (o := .cells #[.slice none 0 0] 26 (0, 0)) (zG BK102.out) NB102_0.out (by simp)) (Kept.of_keep (S := (fun k_ => (P1_0_ k_) ∨ k_ = g)) (zJ) hk (.inl (.inr rfl))) (hb) (hi); clear HO1_0 BK101 BK102 HK HB HI0; obtain ⟨HO1_0, BK101, BK102, HK, HB, HI0⟩ := n_; (try clear hb); (try clear hb2); (try clear hk); (try clear hi); have hnb12 := NB101_102.out; have hnc12 := NB102_101.out; have hnb13 := NB101_0.out; have hnc13 := NB0_101.out; have hcz14_0 := zc BK101.out; have hfz14_0 := blk_frozen BK101.out 0) | ((with_reducible refine gate_callee (f := 74) rfl ?_); refine goesL_ (some 11) rfl rfl Try.func74 zk rfl #[.slice Ao8 l1_0.length co8] rfl zA ?_; (with_reducible refine (spec_l01Own.calls _ _ l1_0 t106 _ ?side1 ?side2 A5.out).mono ?_); (case side1 => exact zC (Kd.R_reads' HO1_0.out).2.2); (case side2 => exact (Kd.R_reads' HO1_0.out).2.1); rintro e w15 ⟨v107, rfl, ho0, hb⟩; refine ⟨_, rfl, ?_⟩; have n_ := y7 (Kd.R_elder' (zR HO1_0.out) (Kd.R_base ho0) hb) (Kd.R_lower (Kd.R_new' (Kd.R_newM (M := fun k_ => (P1_0_ k_ ∨ w.heap.size ≤ k_)) ho0 (by first | exact HK.out.1 | exact (show Kept w _ (fun k_ => (P1_0_ k_) ∨ k_ = g) from zJ).1) (fun k_ h_ => .inr h_)) (Kd.R_lt (zR HO1_0.out))) (below_size (zB))) (IsS68.below (zI) hb) (zb BK101.out hb) (zb BK102.out hb) (Kept.below (S := (fun k_ => (P1_0_ k_) ∨ k_ = g)) (zJ) hb) (below_step (zB) hb); clear HO1_0 HI0 BK101 BK102 HK HB; obtain ⟨HO1_0, HO108, HI0, BK101, BK102, HK, HB⟩ := n_; (try clear hb); (try clear hb2); (try clear hk); (try clear hi); (try clear ho0)) | ((with_reducible refine gate_dst (N := 13) rfl ?_); refine Kd.R_lit (Kd.int .i64) _ 2 ?hg (N := 13) ?hd (xs := ([0, 21, (-1)] : List Int)) (inner := [.int .i64 0, .int .i64 21, .int .i64 (-1)]) (ok := fun _ => True) (okp := fun _ => True) ?hr ?hp (fun _ hk => hk) trivial (Below.refl _ _) (Nat.le_refl _) (by simp) ?_; (case hd => rfl); (case hg => rfl); (case hr => first | (go_simp; done) | (go_simp; rfl)); (case hp => exact (Reps.one (show Kd.M (Kd.int .i64) _ _ _ 0 [.int .i64 0] from rfl) (Reps.one (show Kd.M (Kd.int .i64) _ _ _ 21 [.int .i64 21] from rfl) (Reps.one (show Kd.M (Kd.int .i64) _ _ _ (-1) [.int .i64 (-1)] from rfl) (Reps.none _ _))))); intro v110 w16 ho17 hb hg_ hnew_; clear hg_ hnew_; (first | rw [← Ny109.out] at ho17 | (simp only [Int.reduceToNat] at ho17; rw [← Ny109.out] at ho17)); have n_ := y8 (Kd.R_elder' (zR HO1_0.out) (Kd.R_base ho17) hb) (Kd.R_elder' (zR HO108.out) (Kd.R_base ho17) hb) (Kd.R_lower (Kd.R_new' (Kd.R_new' (Kd.R_newM (M := fun k_ => (P1_0_ k_ ∨ w.heap.size ≤ k_)) ho17 (by first | exact HK.out.1 | exact (show Kept w _ (fun k_ => (P1_0_ k_) ∨ k_ = g) from zJ).1) (fun k_ h_ => .inr h_)) (Kd.R_lt (zR HO1_0.out))) (Kd.R_lt (zR HO108.out))) (below_size (zB))) (IsS68.below (zI) hb) (zb BK101.out hb) (zb BK102.out hb) (Kept.below (S := (fun k_ => (P1_0_ k_) ∨ k_ = g)) (zJ) hb) (below_step (zB) hb); clear HO1_0 HO108 HI0 BK101 BK102 HK HB; obtain ⟨HO1_0, HO108, HO111, HI0, BK101, BK102, HK, HB⟩ := n_; clear hb ho17; obtain ⟨Ao18, co18, eo18⟩ := Kd.R_slice HO111.out; subst eo18) | ((with_reducible refine gate_callee (f := 35) rfl ?_); refine goesL_ (some 14) rfl rfl Try.func35 zk rfl #[.pointer (some ⟨g, 0, none⟩), .slice Ao18 y109.length co18] rfl zA ?_; (with_reducible refine (spec_l01Pick.calls g s0_0 t104 t105 _ _ y109 t112 t113 t114 w0 _ ?side1 ?side2 ?side3 ?side4 ?side5 A6.out).mono ?_); (case side1 => exact zI); (case side2 => exact zB); (case side3 => exact zC (Kd.R_reads' HO111.out).2.2); (case side4 => exact (Kd.R_reads' HO111.out).2.1); (case side5 => exact far_slice (IsS68.own_ne HI0.out HO111.out (by decide))); rintro e w19 ⟨rfl, hi, hb, hk⟩; refine ⟨_, rfl, ?_⟩; have n_ := y8 (Kd.R_mono (Kd.R_keep (IsS68.apart (show IsS68 w0 _ g s0_0 t104 t105 from zI) (zR HO1_0.out) (by decide)) hk (fun _ h => h.2)) (fun _ h => h.1)) (KeepBut.blk hk (g' := gb101) (o := .cells #[.slice Ao8 l1_0.length co8] 26 (0, 0)) (zG BK101.out) NB101_0.out (by simp)) (KeepBut.blk hk (g' := gb102) (o := .cells #[.slice none 0 0] 26 (0, 0)) (zG BK102.out) NB102_0.out (by simp)) (Kd.R_mono (Kd.R_keep (IsS68.apart (show IsS68 w0 _ g s0_0 t104 t105 from zI) (zR HO108.out) (by decide)) hk (fun _ h => h.2)) (fun _ h => h.1)) (Kd.R_mono (Kd.R_keep (IsS68.apart (show IsS68 w0 _ g s0_0 t104 t105 from zI) (zR HO111.out) (by decide)) hk (fun _ h => h.2)) (fun _ h => h.1)) (Kept.of_keep (S := (fun k_ => (P1_0_ k_) ∨ k_ = g)) (zJ) hk (.inl (.inr rfl))) (hb) (hi); clear HO1_0 BK101 BK102 HO108 HO111 HK HB HI0; obtain ⟨HO1_0, BK101, BK102, HO108, HO111, HK, HB, HI0⟩ := n_; (try clear hb); (try clear hb2); (try clear hk); (try clear hi)) | ((with_reducible refine gate_builtin (b := .append) (xs := #[.tmp 11, .tmp 15]) rfl ?_); at_builtin; refine Kd.R_append (Kd.int .i64) (w0 := w0) w0.heap.size rfl (.tmp 11) (.tmp 15) 24 2 (.int .i64 0) 8 rfl Try.underlying24 info2 rfl (by decide) (by omega) v107 t106 t112 [.int .i64 t112] (fun k_ => (P1_0_ k_ ∨ w.heap.size ≤ k_) ∧ some k_ ≠ (.slice Ao8 l1_0.length co8 : Value).ownBlock ∧ some k_ ≠ (.slice Ao18 y109.length co18 : Value).ownBlock) (fun _ => False) rfl rfl ?aP (fun _ hk => hk.elim) ?aF ?aO ?aB ?aS ?aL ?_; (case aP => exact rfl); (case aB => exact (zB)); (case aF => exact (fun k_ hk => ⟨(.inr (Nat.le_trans (by first | exact HK.out.1 | exact (show Kept w _ (fun k_ => (P1_0_ k_) ∨ k_ = g) from zJ).1) hk)), Kd.fresh' (Kd.R_lt (zR HO1_0.out)) k_ hk, Kd.fresh' (Kd.R_lt (zR HO111.out)) k_ hk⟩)); (case aO => exact (by refine zR ?_; exact Kd.R_mono HO108.out (fun _ hk => ⟨hk.1.1.1, ⟨hk.1.2, hk.2⟩⟩))); (case aS => exact (below_size (zB))); (case aL => have := LMc7.out; omega); intro v116 w20 ho hb hg hat; rw [← Ny115.out] at ho; have n_ := y8 (IsS68.grown (zI) hg (IsS68.own_ne HI0.out HO108.out (by decide))) (Kd.R_after (ok := (fun k_ => (P1_0_ k_ ∨ w.heap.size ≤ k_) ∧ some k_ ≠ (.slice Ao18 y109.length co18 : Value).ownBlock)) (by refine zR ?_; exact Kd.R_mono HO1_0.out (fun _ hk => ⟨⟨hk.1.1, hk.2⟩, hk.1.2⟩)) hg hat) (blk_grown (g := gb101) (o := .cells #[.slice Ao8 l1_0.length co8] 26 (0, 0)) (zG BK101.out) hg (Kd.R_ne HO108.out BK101.out (by decide))) (blk_grown (g := gb102) (o := .cells #[.slice none 0 0] 26 (0, 0)) (zG BK102.out) hg (Kd.R_ne HO108.out BK102.out (by decide))) (Kd.R_after (ok := (fun k_ => (P1_0_ k_ ∨ w.heap.size ≤ k_) ∧ some k_ ≠ (.slice Ao8 l1_0.length co8 : Value).ownBlock)) (by refine zR ?_; exact Kd.R_mono HO111.out (fun _ hk => ⟨⟨hk.1.1.1, hk.1.2⟩, hk.2⟩)) hg hat) (hb) (Kept.of_grown (S := (fun k_ => (P1_0_ k_) ∨ k_ = g)) hg (zJ) (fun k_ e_ => Or.imp_left Or.inl ((HO108.out.1 k_ e_).1.1.1))) (ho); clear HI0 HO1_0 BK101 BK102 HO111 HB HK HO108; obtain ⟨HI0, HO1_0, BK101, BK102, HO111, HB, HK, HO117⟩ := n_; clear ho hb hg hat; obtain ⟨Ao21, co21, eo21⟩ := Kd.R_slice HO117.out; subst eo21; have hnb22 := NB102_0.out; have hnc22 := NB0_102.out; have hcz23_0 := zc BK102.out; have hfz23_0 := blk_frozen BK102.out 0))
  refine bodyPost_ret (results_cell_row rfl _ _ gb102 26 #[.slice Ao21 y115.length co21] (0, 0) _ rfl (by refine zG ?_; refine blk_put (cs := #[.slice none 0 0]) ?_ 0 _ rfl; refine zG ?_; exact BK102.out) Try.underlying26 rfl zk) rfl ?_
  exact ⟨_, zE, by refine zR ?_; exact Kd.R_mono (Kd.R_far (p := ⟨gb102, 0, none⟩) (Kd.R_types HO117.out BK102.out (by decide)) (fun _ hk => hk.2) (.slice Ao21 y115.length co21)) (fun _ hk => hk.1.1), zI, zB, zJ⟩
 rw [if_neg c4] at H
 have c4b0 : (t103 == 0) = false := beq_eq_false_iff_ne.mpr c4
 have c4b1 : (t103 != 0) = true := bne_iff_ne.mpr c4
 by_cases c24 : t103 = 1
 ·
  rw [if_pos c24] at H
  have c24b0 : (t103 == 1) = true := beq_iff_eq.mpr c24
  have c24b1 : (t103 != 1) = false := bne_eq_false_iff_eq.mpr c24
  clear c24
  obtain ⟨y118, hy118⟩ : ∃ y_ : List Int, y_ = (([] : List Int)) := ⟨_, rfl⟩
  replace H : (some (y118, t104, t105)) = some (r1, r2, r3) := zH hy118
  have Ny118 := Aside0.mk hy118
  clear hy118
  simp only [Option.some.injEq, Prod.mk.injEq] at H
  obtain ⟨rfl, rfl, rfl⟩ := H
  obtain ⟨Ao25, co25, eo25⟩ := Kd.R_slice HO1_0.out
  subst eo25
  go_enter Try.func61, Try.ntmps61
  go_wp2_with (first | ((with_reducible refine gate_dst (N := 3) rfl ?_); refine box_event zr (N := 3) zr (cs := #[.slice Ao25 l1_0.length co25]) (t := 26) zg ?_; intro gb101 hg w26 hbox hb; have n_ := y9 (Kd.R_below (zR HO1_0.out) hb) (IsS68.below (zI) hb) (Kept.below (S := (fun k_ => (P1_0_ k_) ∨ k_ = g)) (zJ) hb) (below_step (zB) hb) (hbox) ((by rw [hg]; exact (by first | exact HK.out.1 | exact (show Kept w _ (fun k_ => (P1_0_ k_) ∨ k_ = g) from zJ).1) : w.heap.size ≤ gb101)) ((zS hg : w0.heap.size ≤ gb101)) ((by rw [hg]; exact Nat.ne_of_lt (IsS68.lt (show IsS68 w0 _ g s0_0 s0_1 s0_2 from zI)) : g ≠ gb101)) ((by rw [hg]; exact Nat.ne_of_gt (IsS68.lt (show IsS68 w0 _ g s0_0 s0_1 s0_2 from zI)) : gb101 ≠ g)); clear HO1_0 HI0 HK HB; obtain ⟨HO1_0, HI0, HK, HB, BK101, GW101, GE101, NB0_101, NB101_0⟩ := n_; clear hb hbox hg) | ((with_reducible refine gate_dst (N := 4) rfl ?_); refine box_event zr (N := 4) zr (cs := #[.slice none 0 0]) (t := 26) zg ?_; intro gb102 hg w27 hbox hb; have n_ := y12 (Kd.R_below (zR HO1_0.out) hb) (IsS68.below (zI) hb) (zb BK101.out hb) (Kept.below (S := (fun k_ => (P1_0_ k_) ∨ k_ = g)) (zJ) hb) (below_step (zB) hb) (hbox) ((by rw [hg]; exact (by first | exact HK.out.1 | exact (show Kept w _ (fun k_ => (P1_0_ k_) ∨ k_ = g) from zJ).1) : w.heap.size ≤ gb102)) ((zS hg : w0.heap.size ≤ gb102)) ((zL hg BK101.out : gb101 ≠ gb102)) ((zM hg BK101.out : gb102 ≠ gb101)) ((by rw [hg]; exact Nat.ne_of_lt (IsS68.lt (show IsS68 w0 _ g s0_0 s0_1 s0_2 from zI)) : g ≠ gb102)) ((by rw [hg]; exact Nat.ne_of_gt (IsS68.lt (show IsS68 w0 _ g s0_0 s0_1 s0_2 from zI)) : gb102 ≠ g)); clear HO1_0 HI0 BK101 HK HB; obtain ⟨HO1_0, HI0, BK101, HK, HB, BK102, GW102, GE102, NB101_102, NB102_101, NB0_102, NB102_0⟩ := n_; clear hb hbox hg) | ((with_reducible refine gate_callee (f := 60) rfl ?_); refine goesL_ (some 6) rfl rfl Try.func60 zk rfl #[.pointer (some ⟨g, 0, none⟩), .int .i64 40] rfl zA ?_; (with_reducible refine (spec_l01Next.calls g s0_0 s0_1 s0_2 40 t103 t104 t105 w0 _ ?side1 ?side2 A3.out).mono ?_); (case side1 => exact zI); (case side2 => exact zB); rintro e w28 ⟨rfl, hi, hb, hk⟩; refine ⟨_, rfl, ?_⟩; have n_ := y6 (Kd.R_mono (Kd.R_keep (IsS68.apart (show IsS68 w0 _ g s0_0 s0_1 s0_2 from zI) (zR HO1_0.out) (by decide)) hk (fun _ h => h.2)) (fun _ h => h.1)) (KeepBut.blk hk (g' := gb101) (o := .cells #[.slice Ao25 l1_0.length co25] 26 (0, 0)) (zG BK101.out) NB101_0.out (by simp)) (KeepBut.blk hk (g' := gb102) (o := .cells #[.slice none 0 0] 26 (0, 0)) (zG BK102.out) NB102_0.out (by simp)) (Kept.of_keep (S := (fun k_ => (P1_0_ k_) ∨ k_ = g)) (zJ) hk (.inl (.inr rfl))) (hb) (hi); clear HO1_0 BK101 BK102 HK HB HI0; obtain ⟨HO1_0, BK101, BK102, HK, HB, HI0⟩ := n_; (try clear hb); (try clear hb2); (try clear hk); (try clear hi)) | ((with_reducible refine gate_dst (N := 20) rfl ?_); refine Kd.R_lit (Kd.int .i64) _ 2 ?hg (N := 20) ?hd (xs := ([] : List Int)) (inner := []) (ok := fun _ => True) (okp := fun _ => True) ?hr ?hp (fun _ hk => hk) trivial (Below.refl _ _) (Nat.le_refl _) (by simp) ?_; (case hd => rfl); (case hg => rfl); (case hr => first | (go_simp; done) | (go_simp; rfl)); (case hp => exact (Reps.none _ _)); intro v119 w29 ho30 hb hg_ hnew_; clear hg_ hnew_; (first | rw [← Ny118.out] at ho30 | (simp only [Int.reduceToNat] at ho30; rw [← Ny118.out] at ho30)); have n_ := y7 (Kd.R_elder' (zR HO1_0.out) (Kd.R_base ho30) hb) (Kd.R_lower (Kd.R_new' (Kd.R_newM (M := fun k_ => (P1_0_ k_ ∨ w.heap.size ≤ k_)) ho30 (by first | exact HK.out.1 | exact (show Kept w _ (fun k_ => (P1_0_ k_) ∨ k_ = g) from zJ).1) (fun k_ h_ => .inr h_)) (Kd.R_lt (zR HO1_0.out))) (below_size (zB))) (IsS68.below (zI) hb) (zb BK101.out hb) (zb BK102.out hb) (Kept.below (S := (fun k_ => (P1_0_ k_) ∨ k_ = g)) (zJ) hb) (below_step (zB) hb); clear HO1_0 HI0 BK101 BK102 HK HB; obtain ⟨HO1_0, HO120, HI0, BK101, BK102, HK, HB⟩ := n_; clear hb ho30; obtain ⟨Ao31, co31, eo31⟩ := Kd.R_slice HO120.out; subst eo31; have hnb32 := NB102_101.out; have hnc32 := NB101_102.out; have hnb33 := NB102_0.out; have hnc33 := NB0_102.out; have hcz34_0 := zc BK102.out; have hfz34_0 := blk_frozen BK102.out 0))
  refine bodyPost_ret (results_cell_row rfl _ _ gb102 26 #[.slice Ao31 y118.length co31] (0, 0) _ rfl (by refine zG ?_; refine blk_put (cs := #[.slice none 0 0]) ?_ 0 _ rfl; refine zG ?_; exact BK102.out) Try.underlying26 rfl zk) rfl ?_
  exact ⟨_, zE, by refine zR ?_; exact Kd.R_mono (Kd.R_far (p := ⟨gb102, 0, none⟩) (Kd.R_types HO120.out BK102.out (by decide)) (fun _ hk => hk.2) (.slice Ao31 y118.length co31)) (fun _ hk => hk.1.1.1), zI, zB, zJ⟩
 rw [if_neg c24] at H
 have c24b0 : (t103 == 1) = false := beq_eq_false_iff_ne.mpr c24
 have c24b1 : (t103 != 1) = true := bne_iff_ne.mpr c24
 simp only [Option.some.injEq, Prod.mk.injEq] at H
 obtain ⟨rfl, rfl, rfl⟩ := H
 obtain ⟨Ao35, co35, eo35⟩ := Kd.R_slice HO1_0.out
 subst eo35
 go_enter Try.func61, Try.ntmps61
 go_wp2_with (first | ((with_reducible refine gate_dst (N := 3) rfl ?_); refine box_event zr (N := 3) zr (cs := #[.slice Ao35 l1_0.length co35]) (t := 26) zg ?_; intro gb101 hg w36 hbox hb; have n_ := y9 (Kd.R_below (zR HO1_0.out) hb) (IsS68.below (zI) hb) (Kept.below (S := (fun k_ => (P1_0_ k_) ∨ k_ = g)) (zJ) hb) (below_step (zB) hb) (hbox) ((by rw [hg]; exact (by first | exact HK.out.1 | exact (show Kept w _ (fun k_ => (P1_0_ k_) ∨ k_ = g) from zJ).1) : w.heap.size ≤ gb101)) ((zS hg : w0.heap.size ≤ gb101)) ((by rw [hg]; exact Nat.ne_of_lt (IsS68.lt (show IsS68 w0 _ g s0_0 s0_1 s0_2 from zI)) : g ≠ gb101)) ((by rw [hg]; exact Nat.ne_of_gt (IsS68.lt (show IsS68 w0 _ g s0_0 s0_1 s0_2 from zI)) : gb101 ≠ g)); clear HO1_0 HI0 HK HB; obtain ⟨HO1_0, HI0, HK, HB, BK101, GW101, GE101, NB0_101, NB101_0⟩ := n_; clear hb hbox hg) | ((with_reducible refine gate_dst (N := 4) rfl ?_); refine box_event zr (N := 4) zr (cs := #[.slice none 0 0]) (t := 26) zg ?_; intro gb102 hg w37 hbox hb; have n_ := y12 (Kd.R_below (zR HO1_0.out) hb) (IsS68.below (zI) hb) (zb BK101.out hb) (Kept.below (S := (fun k_ => (P1_0_ k_) ∨ k_ = g)) (zJ) hb) (below_step (zB) hb) (hbox) ((by rw [hg]; exact (by first | exact HK.out.1 | exact (show Kept w _ (fun k_ => (P1_0_ k_) ∨ k_ = g) from zJ).1) : w.heap.size ≤ gb102)) ((zS hg : w0.heap.size ≤ gb102)) ((zL hg BK101.out : gb101 ≠ gb102)) ((zM hg BK101.out : gb102 ≠ gb101)) ((by rw [hg]; exact Nat.ne_of_lt (IsS68.lt (show IsS68 w0 _ g s0_0 s0_1 s0_2 from zI)) : g ≠ gb102)) ((by rw [hg]; exact Nat.ne_of_gt (IsS68.lt (show IsS68 w0 _ g s0_0 s0_1 s0_2 from zI)) : gb102 ≠ g)); clear HO1_0 HI0 BK101 HK HB; obtain ⟨HO1_0, HI0, BK101, HK, HB, BK102, GW102, GE102, NB101_102, NB102_101, NB0_102, NB102_0⟩ := n_; clear hb hbox hg) | ((with_reducible refine gate_callee (f := 60) rfl ?_); refine goesL_ (some 6) rfl rfl Try.func60 zk rfl #[.pointer (some ⟨g, 0, none⟩), .int .i64 40] rfl zA ?_; (with_reducible refine (spec_l01Next.calls g s0_0 s0_1 s0_2 40 t103 t104 t105 w0 _ ?side1 ?side2 A3.out).mono ?_); (case side1 => exact zI); (case side2 => exact zB); rintro e w38 ⟨rfl, hi, hb, hk⟩; refine ⟨_, rfl, ?_⟩; have n_ := y6 (Kd.R_mono (Kd.R_keep (IsS68.apart (show IsS68 w0 _ g s0_0 s0_1 s0_2 from zI) (zR HO1_0.out) (by decide)) hk (fun _ h => h.2)) (fun _ h => h.1)) (KeepBut.blk hk (g' := gb101) (o := .cells #[.slice Ao35 l1_0.length co35] 26 (0, 0)) (zG BK101.out) NB101_0.out (by simp)) (KeepBut.blk hk (g' := gb102) (o := .cells #[.slice none 0 0] 26 (0, 0)) (zG BK102.out) NB102_0.out (by simp)) (Kept.of_keep (S := (fun k_ => (P1_0_ k_) ∨ k_ = g)) (zJ) hk (.inl (.inr rfl))) (hb) (hi); clear HO1_0 BK101 BK102 HK HB HI0; obtain ⟨HO1_0, BK101, BK102, HK, HB, HI0⟩ := n_; (try clear hb); (try clear hb2); (try clear hk); (try clear hi); have hnb39 := NB101_102.out; have hnc39 := NB102_101.out; have hnb40 := NB101_0.out; have hnc40 := NB0_101.out; have hcz41_0 := zc BK101.out; have hfz41_0 := blk_frozen BK101.out 0; have hnb42 := NB102_0.out; have hnc42 := NB0_102.out; have hcz43_0 := zc BK102.out; have hfz43_0 := blk_frozen BK102.out 0))
 refine bodyPost_ret (results_cell_row rfl _ _ gb102 26 #[.slice Ao35 l1_0.length co35] (0, 0) _ rfl (by refine zG ?_; refine blk_put (cs := #[.slice none 0 0]) ?_ 0 _ rfl; refine zG ?_; exact BK102.out) Try.underlying26 rfl zk) rfl ?_
 exact ⟨_, zE, by refine zR ?_; exact Kd.R_mono (Kd.R_far (p := ⟨gb102, 0, none⟩) (Kd.R_types HO1_0.out BK102.out (by decide)) (fun _ hk => hk.2) (.slice Ao35 l1_0.length co35)) (fun _ hk => hk.1), zI, zB, zJ⟩
end Go.Proofs.Ytgmciimgmnnhmaa.P
end
section
namespace Go.Proofs.Ytgmciimgmnnhmaa.P
open Go.RowKit Go.Proofs.YtgmciimgmnnhmaaW.PrintWords Go.Proofs.YtgmciimgmnnhmaaW.PrintLast Go.Proofs.YtgmciimgmnnhmaaW.PrintMore
attribute [local go_sem] max2_int min2_int max_two min_two max_three min_three max_four min_four   -- for this text's walks alone
set_option linter.unusedVariables false
set_option linter.unusedSimpArgs false
def spec_l01BadTurns.l0 : Nat → List Int → List Int → Int → Int → Option (List Int × Int × Int)
  | 0, _, _, _, _ => none
  | k + 1, x5, x1000, x1001, x1002 => if (x5.length : Int) ≤ 120 then (if x5.length < 17592186044416 then (spec_l01BadTurns.l0 k (x5 ++ [(-1)]) x1000 x1001 x1002) else (none)) else (some (x5, x1001, x1002))
def spec_l01BadTurns.f (k : Nat) (s0_0 : List Int) (s0_1 : Int) (s0_2 : Int) (l1 : List Int) : Option (List Int × Int × Int) := (spec_l01Own.f l1).bind fun t101 => ((spec_l01Next.f s0_0 s0_1 s0_2 40).bind fun bt104 => (if bt104.1 = 0 then (some ((([] : List Int)), bt104.2.1, bt104.2.2)) else (if bt104.1 = 1 then ((spec_l01Next.f s0_0 bt104.2.1 bt104.2.2 (t101.length : Int)).bind fun bt110 => ((spec_l01Pick.f s0_0 bt110.2.1 bt110.2.2 (([(-2), 8, 1099511627776, 7] : List Int))).bind fun bt116 => (if 0 ≤ bt110.1 then (if bt110.1 < (t101.length : Int) then (some ((t101.set (bt110.1 : Int).toNat bt116.1), bt116.2.1, bt116.2.2)) else (none)) else (none)))) else (if bt104.1 = 2 then (spec_l01BadTurns.l0 k t101 s0_0 bt104.2.1 bt104.2.2) else (some (t101, bt104.2.1, bt104.2.2))))))
theorem spec_l01BadTurns.mono_l : ∀ k, (∀ y0 y1 y2 y3, LeO (spec_l01BadTurns.l0 k y0 y1 y2 y3) (spec_l01BadTurns.l0 (k + 1) y0 y1 y2 y3))
  | 0 => fun _ _ _ _ r h => by simp [spec_l01BadTurns.l0] at h
  | k + 1 => by
    have ih0 := spec_l01BadTurns.mono_l k
    · intro y0 y1 y2 y3
      unfold spec_l01BadTurns.l0
      repeat' first | (with_reducible exact ih0 _ _ _ _) | (with_reducible exact LeO.refl _) | (with_reducible exact LeO.none _) | (with_reducible refine LeO.ite ?_ ?_) | (with_reducible refine LeO.bind ?_ (fun _ => ?_)) | exact ih0 _ _ _ _ | exact LeO.none _ | refine LeO.ite ?_ ?_ | refine LeO.bind ?_ (fun _ => ?_)
theorem spec_l01BadTurns.mono : ∀ a0 a1 a2 a3 k, LeO (spec_l01BadTurns.f k a0 a1 a2 a3) (spec_l01BadTurns.f (k + 1) a0 a1 a2 a3) := by
  intro a0 a1 a2 a3 k
  have ih0 := spec_l01BadTurns.mono_l k
  unfold spec_l01BadTurns.f
  repeat' first | (with_reducible exact ih0 _ _ _ _) | (with_reducible exact LeO.refl _) | (with_reducible exact LeO.none _) | (with_reducible refine LeO.ite ?_ ?_) | (with_reducible refine LeO.bind ?_ (fun _ => ?_)) | exact ih0 _ _ _ _ | exact LeO.none _ | refine LeO.ite ?_ ?_ | refine LeO.bind ?_ (fun _ => ?_)
set_option maxHeartbeats 8000000 in
set_option maxRecDepth 100000 in
theorem spec_l01BadTurns.calls (k : Nat) (g : Nat) (s0_0 : List Int) (s0_1 : Int) (s0_2 : Int) (A1 : Option Addr) (c1 : Nat) (l1 : List Int) (r1 : List Int) (r2 : Int) (r3 : Int) (w0 w : World) (hI : IsS68 w0 w g s0_0 s0_1 s0_2) (hB : Below w0.heap.size w0 w) (hr1 : Kd.C (Kd.int .i64) w A1 l1.length l1) (hc1 : l1.length ≤ c1) (hf1 : ∀ ad, A1 = some ad → 0 < l1.length → ad.block ≠ g) (h : spec_l01BadTurns.f k s0_0 s0_1 s0_2 l1 = some (r1, r2, r3)) :
    Calls Try.prog 62 #[.pointer (some ⟨g, 0, none⟩), .slice A1 l1.length c1] w fun e w' => ∃ v0_ : Value, e = .returned (v0_) ∧ Kd.R (Kd.int .i64) 2 w' w.heap.size (fun _ => True) v0_ r1 ∧ IsS68 w0 w' g s0_0 r2 r3 ∧ Below w0.heap.size w0 w' ∧ KeepBut w w' g none := by
 have HR1 := Aside0.mk hr1
 have HC1 := Aside0.mk hc1
 clear hr1 hc1
 have HI0 := Aside0.mk hI
 have HK := Aside0.mk (KeepBut.refl w g none)
 have HL := Aside0.mk hB.size
 clear hI
 have HW0 := Aside0.mk hB.size
 have HB := Aside0.mk hB
 clear hB
 have H : ((spec_l01Own.f l1).bind fun t101 => ((spec_l01Next.f s0_0 s0_1 s0_2 40).bind fun bt104 => (if bt104.1 = 0 then (some ((([] : List Int)), bt104.2.1, bt104.2.2)) else (if bt104.1 = 1 then ((spec_l01Next.f s0_0 bt104.2.1 bt104.2.2 (t101.length : Int)).bind fun bt110 => ((spec_l01Pick.f s0_0 bt110.2.1 bt110.2.2 (([(-2), 8, 1099511627776, 7] : List Int))).bind fun bt116 => (if 0 ≤ bt110.1 then (if bt110.1 < (t101.length : Int) then (some ((t101.set (bt110.1 : Int).toNat bt116.1), bt116.2.1, bt116.2.2)) else (none)) else (none)))) else (if bt104.1 = 2 then (spec_l01BadTurns.l0 k t101 s0_0 bt104.2.1 bt104.2.2) else (some (t101, bt104.2.1, bt104.2.2))))))) = some (r1, r2, r3) := h
 clear h
 replace H := Option.bind_eq_some_iff.mp H
 obtain ⟨t101, A30, H⟩ := H
 replace H : ((spec_l01Next.f s0_0 s0_1 s0_2 40).bind fun bt104 => (if bt104.1 = 0 then (some ((([] : List Int)), bt104.2.1, bt104.2.2)) else (if bt104.1 = 1 then ((spec_l01Next.f s0_0 bt104.2.1 bt104.2.2 (t101.length : Int)).bind fun bt110 => ((spec_l01Pick.f s0_0 bt110.2.1 bt110.2.2 (([(-2), 8, 1099511627776, 7] : List Int))).bind fun bt116 => (if 0 ≤ bt110.1 then (if bt110.1 < (t101.length : Int) then (some ((t101.set (bt110.1 : Int).toNat bt116.1), bt116.2.1, bt116.2.2)) else (none)) else (none)))) else (if bt104.1 = 2 then (spec_l01BadTurns.l0 k t101 s0_0 bt104.2.1 bt104.2.2) else (some (t101, bt104.2.1, bt104.2.2)))))) = some (r1, r2, r3) := H
 have A3 := Aside0.mk A30
 clear A30
 replace H := Option.bind_eq_some_iff.mp H
 obtain ⟨⟨t104, t105, t106⟩, A40, H⟩ := H
 replace H : (if t104 = 0 then (some ((([] : List Int)), t105, t106)) else (if t104 = 1 then ((spec_l01Next.f s0_0 t105 t106 (t101.length : Int)).bind fun bt110 => ((spec_l01Pick.f s0_0 bt110.2.1 bt110.2.2 (([(-2), 8, 1099511627776, 7] : List Int))).bind fun bt116 => (if 0 ≤ bt110.1 then (if bt110.1 < (t101.length : Int) then (some ((t101.set (bt110.1 : Int).toNat bt116.1), bt116.2.1, bt116.2.2)) else (none)) else (none)))) else (if t104 = 2 then (spec_l01BadTurns.l0 k t101 s0_0 t105 t106) else (some (t101, t105, t106))))) = some (r1, r2, r3) := H
 have A4 := Aside0.mk A40
 clear A40
 by_cases c5 : t104 = 0
 ·
  rw [if_pos c5] at H
  have c5b0 : (t104 == 0) = true := beq_iff_eq.mpr c5
  have c5b1 : (t104 != 0) = false := bne_eq_false_iff_eq.mpr c5
  clear c5
  obtain ⟨y107, hy107⟩ : ∃ y_ : List Int, y_ = (([] : List Int)) := ⟨_, rfl⟩
  replace H : (some (y107, t105, t106)) = some (r1, r2, r3) := zH hy107
  have Ny107 := Aside0.mk hy107
  clear hy107
  simp only [Option.some.injEq, Prod.mk.injEq] at H
  obtain ⟨rfl, rfl, rfl⟩ := H
  go_enter Try.func62, Try.ntmps62
  go_wp2_with (first | ((with_reducible refine gate_callee (f := 74) rfl ?_); refine goesL_ (some 7) rfl rfl Try.func74 zk rfl #[.slice A1 l1.length c1] rfl zA ?_; (with_reducible refine (spec_l01Own.calls _ _ l1 t101 _ ?side1 ?side2 A3.out).mono ?_); (case side1 => exact Kd.C_keep 0 HR1.out (zK) hf1); (case side2 => exact HC1.out); rintro e w6 ⟨v102, rfl, ho0, hb⟩; refine ⟨_, rfl, ?_⟩; have n_ := y4 (Kd.R_lower ho0 (keep_size (w := w) (g := g) (row := none) (zK))) (IsS68.below (zI) hb) (KeepBut.trans (zK) (KeepBut.of_below hb g none) (.inl rfl)) (below_step (zB) hb); clear HI0 HK HB; obtain ⟨HO103, HI0, HK, HB⟩ := n_; (try clear hb); (try clear hb2); (try clear hk); (try clear hi); (try clear ho0)) | ((with_reducible refine gate_callee (f := 60) rfl ?_); refine goesL_ (some 9) rfl rfl Try.func60 zk rfl #[.pointer (some ⟨g, 0, none⟩), .int .i64 40] rfl zA ?_; (with_reducible refine (spec_l01Next.calls g s0_0 s0_1 s0_2 40 t104 t105 t106 w0 _ ?side1 ?side2 A4.out).mono ?_); (case side1 => exact zI); (case side2 => exact zB); rintro e w7 ⟨rfl, hi, hb, hk⟩; refine ⟨_, rfl, ?_⟩; have n_ := y4 (Kd.R_mono (Kd.R_keep (IsS68.apart (show IsS68 w0 _ g s0_0 s0_1 s0_2 from zI) (zR HO103.out) (by decide)) hk (fun _ h => h.2)) (fun _ h => h.1)) (KeepBut.trans (zK) hk (.inl rfl)) (hb) (hi); clear HO103 HK HB HI0; obtain ⟨HO103, HK, HB, HI0⟩ := n_; (try clear hb); (try clear hb2); (try clear hk); (try clear hi)) | ((with_reducible refine gate_dst (N := 12) rfl ?_); refine Kd.R_lit (Kd.int .i64) _ 2 ?hg (N := 12) ?hd (xs := ([] : List Int)) (inner := []) (ok := fun _ => True) (okp := fun _ => True) ?hr ?hp (fun _ hk => hk) trivial (Below.refl _ _) (Nat.le_refl _) (by simp) ?_; (case hd => rfl); (case hg => rfl); (case hr => first | (go_simp; done) | (go_simp; rfl)); (case hp => exact (Reps.none _ _)); intro v108 w8 ho9 hb hg_ hnew_; clear hg_ hnew_; (first | rw [← Ny107.out] at ho9 | (simp only [Int.reduceToNat] at ho9; rw [← Ny107.out] at ho9)); have n_ := y5 (Kd.R_elder' (zR HO103.out) (Kd.R_base ho9) hb) (Kd.R_lower (Kd.R_new' ho9 (Kd.R_lt (zR HO103.out))) (keep_size (w := w) (g := g) (row := none) (zK))) (IsS68.below (zI) hb) (KeepBut.trans (zK) (KeepBut.of_below hb g none) (.inl rfl)) (below_step (zB) hb); clear HO103 HI0 HK HB; obtain ⟨HO103, HO109, HI0, HK, HB⟩ := n_; clear hb ho9))
  go_ret
  exact ⟨_, zE, by refine zR ?_; exact Kd.R_mono HO109.out (fun _ hk => trivial), zI, zB, zK⟩
 rw [if_neg c5] at H
 have c5b0 : (t104 == 0) = false := beq_eq_false_iff_ne.mpr c5
 have c5b1 : (t104 != 0) = true := bne_iff_ne.mpr c5
 by_cases c10 : t104 = 1
 ·
  rw [if_pos c10] at H
  have c10b0 : (t104 == 1) = true := beq_iff_eq.mpr c10
  have c10b1 : (t104 != 1) = false := bne_eq_false_iff_eq.mpr c10
  clear c10
  replace H := Option.bind_eq_some_iff.mp H
  obtain ⟨⟨t110, t111, t112⟩, A110, H⟩ := H
  replace H : ((spec_l01Pick.f s0_0 t111 t112 (([(-2), 8, 1099511627776, 7] : List Int))).bind fun bt116 => (if 0 ≤ t110 then (if t110 < (t101.length : Int) then (some ((t101.set (t110 : Int).toNat bt116.1), bt116.2.1, bt116.2.2)) else (none)) else (none))) = some (r1, r2, r3) := H
  have A11 := Aside0.mk A110
  clear A110
  obtain ⟨y113, hy113⟩ : ∃ y_ : List Int, y_ = (([(-2), 8, 1099511627776, 7] : List Int)) := ⟨_, rfl⟩
  replace H : ((spec_l01Pick.f s0_0 t111 t112 y113).bind fun bt116 => (if 0 ≤ t110 then (if t110 < (t101.length : Int) then (some ((t101.set (t110 : Int).toNat bt116.1), bt116.2.1, bt116.2.2)) else (none)) else (none))) = some (r1, r2, r3) := zH hy113
  have Ny113 := Aside0.mk hy113
  clear hy113
  replace H := Option.bind_eq_some_iff.mp H
  obtain ⟨⟨t116, t117, t118⟩, A120, H⟩ := H
  replace H : (if 0 ≤ t110 then (if t110 < (t101.length : Int) then (some ((t101.set (t110 : Int).toNat t116), t117, t118)) else (none)) else (none)) = some (r1, r2, r3) := H
  have A12 := Aside0.mk A120
  clear A120
  by_cases c13 : 0 ≤ t110
  case neg => rw [if_neg c13] at H; exact absurd H (by simp)
  rw [if_pos c13] at H
  have c13b0 : decide (0 ≤ t110) = true := decide_eq_true c13
  clear c13
  by_cases c14 : t110 < (t101.length : Int)
  case neg => rw [if_neg c14] at H; exact absurd H (by simp)
  rw [if_pos c14] at H
  have c14b0 : decide (t110 < (t101.length : Int)) = true := decide_eq_true c14
  clear c14
  obtain ⟨y119, hy119⟩ : ∃ y_ : List Int, y_ = (t101.set (t110 : Int).toNat t116) := ⟨_, rfl⟩
  replace H : (some (y119, t117, t118)) = some (r1, r2, r3) := zH hy119
  have Ny119 := Aside0.mk hy119
  clear hy119
  simp only [Option.some.injEq, Prod.mk.injEq] at H
  obtain ⟨rfl, rfl, rfl⟩ := H
  go_enter Try.func62, Try.ntmps62
  go_wp2_with (first | ((with_reducible refine gate_callee (f := 74) rfl ?_); refine goesL_ (some 7) rfl rfl Try.func74 zk rfl #[.slice A1 l1.length c1] rfl zA ?_; (with_reducible refine (spec_l01Own.calls _ _ l1 t101 _ ?side1 ?side2 A3.out).mono ?_); (case side1 => exact Kd.C_keep 0 HR1.out (zK) hf1); (case side2 => exact HC1.out); rintro e w16 ⟨v102, rfl, ho0, hb⟩; refine ⟨_, rfl, ?_⟩; have n_ := y4 (Kd.R_lower ho0 (keep_size (w := w) (g := g) (row := none) (zK))) (IsS68.below (zI) hb) (KeepBut.trans (zK) (KeepBut.of_below hb g none) (.inl rfl)) (below_step (zB) hb); clear HI0 HK HB; obtain ⟨HO103, HI0, HK, HB⟩ := n_; (try clear hb); (try clear hb2); (try clear hk); (try clear hi); (try clear ho0)) | ((with_reducible refine gate_callee (f := 60) rfl ?_); refine goesL_ (some 9) rfl rfl Try.func60 zk rfl #[.pointer (some ⟨g, 0, none⟩), .int .i64 40] rfl zA ?_; (with_reducible refine (spec_l01Next.calls g s0_0 s0_1 s0_2 40 t104 t105 t106 w0 _ ?side1 ?side2 A4.out).mono ?_); (case side1 => exact zI); (case side2 => exact zB); rintro e w17 ⟨rfl, hi, hb, hk⟩; refine ⟨_, rfl, ?_⟩; have n_ := y4 (Kd.R_mono (Kd.R_keep (IsS68.apart (show IsS68 w0 _ g s0_0 s0_1 s0_2 from zI) (zR HO103.out) (by decide)) hk (fun _ h => h.2)) (fun _ h => h.1)) (KeepBut.trans (zK) hk (.inl rfl)) (hb) (hi); clear HO103 HK HB HI0; obtain ⟨HO103, HK, HB, HI0⟩ := n_; (try clear hb); (try clear hb2); (try clear hk); (try clear hi); obtain ⟨Ao18, co18, eo18⟩ := Kd.R_slice HO103.out; subst eo18) | ((with_reducible refine gate_callee (f := 60) rfl ?_); refine goesL_ (some 19) rfl rfl Try.func60 zk rfl #[.pointer (some ⟨g, 0, none⟩), .int .i64 (t101.length : Int)] rfl zA ?_; (with_reducible refine (spec_l01Next.calls g s0_0 t105 t106 (t101.length : Int) t110 t111 t112 w0 _ ?side1 ?side2 A11.out).mono ?_); (case side1 => exact zI); (case side2 => exact zB); rintro e w19 ⟨rfl, hi, hb, hk⟩; refine ⟨_, rfl, ?_⟩; have n_ := y4 (Kd.R_mono (Kd.R_keep (IsS68.apart (show IsS68 w0 _ g s0_0 t105 t106 from zI) (zR HO103.out) (by decide)) hk (fun _ h => h.2)) (fun _ h => h.1)) (KeepBut.trans (zK) hk (.inl rfl)) (hb) (hi); clear HO103 HK HB HI0; obtain ⟨HO103, HK, HB, HI0⟩ := n_; (try clear hb); (try clear hb2); (try clear hk); (try clear hi)) | ((with_reducible refine gate_dst (N := 21) rfl ?_); refine Kd.R_lit (Kd.int .i64) _ 2 ?hg (N := 21) ?hd (xs := ([(-2), 8, 1099511627776, 7] : List Int)) (inner := [.int .i64 (-2), .int .i64 8, .int .i64 1099511627776, .int .i64 7]) (ok := fun _ => True) (okp := fun _ => True) ?hr ?hp (fun _ hk => hk) trivial (Below.refl _ _) (Nat.le_refl _) (by simp) ?_; (case hd => rfl); (case hg => rfl); (case hr => first | (go_simp; done) | (go_simp; rfl)); (case hp => exact (Reps.one (show Kd.M (Kd.int .i64) _ _ _ (-2) [.int .i64 (-2)] from rfl) (Reps.one (show Kd.M (Kd.int .i64) _ _ _ 8 [.int .i64 8] from rfl) (Reps.one (show Kd.M (Kd.int .i64) _ _ _ 1099511627776 [.int .i64 1099511627776] from rfl) (Reps.one (show Kd.M (Kd.int .i64) _ _ _ 7 [.int .i64 7] from rfl) (Reps.none _ _)))))); intro v114 w20 ho21 hb hg_ hnew_; clear hg_ hnew_; (first | rw [← Ny113.out] at ho21 | (simp only [Int.reduceToNat] at ho21; rw [← Ny113.out] at ho21)); have n_ := y5 (Kd.R_elder' (zR HO103.out) (Kd.R_base ho21) hb) (Kd.R_lower (Kd.R_new' ho21 (Kd.R_lt (zR HO103.out))) (keep_size (w := w) (g := g) (row := none) (zK))) (IsS68.below (zI) hb) (KeepBut.trans (zK) (KeepBut.of_below hb g none) (.inl rfl)) (below_step (zB) hb); clear HO103 HI0 HK HB; obtain ⟨HO103, HO115, HI0, HK, HB⟩ := n_; clear hb ho21; obtain ⟨Ao22, co22, eo22⟩ := Kd.R_slice HO115.out; subst eo22) | ((with_reducible refine gate_callee (f := 35) rfl ?_); refine goesL_ (some 22) rfl rfl Try.func35 zk rfl #[.pointer (some ⟨g, 0, none⟩), .slice Ao22 y113.length co22] rfl zA ?_; (with_reducible refine (spec_l01Pick.calls g s0_0 t111 t112 _ _ y113 t116 t117 t118 w0 _ ?side1 ?side2 ?side3 ?side4 ?side5 A12.out).mono ?_); (case side1 => exact zI); (case side2 => exact zB); (case side3 => exact zC (Kd.R_reads' HO115.out).2.2); (case side4 => exact (Kd.R_reads' HO115.out).2.1); (case side5 => exact far_slice (IsS68.own_ne HI0.out HO115.out (by decide))); rintro e w23 ⟨rfl, hi, hb, hk⟩; refine ⟨_, rfl, ?_⟩; have n_ := y5 (Kd.R_mono (Kd.R_keep (IsS68.apart (show IsS68 w0 _ g s0_0 t111 t112 from zI) (zR HO103.out) (by decide)) hk (fun _ h => h.2)) (fun _ h => h.1)) (Kd.R_mono (Kd.R_keep (IsS68.apart (show IsS68 w0 _ g s0_0 t111 t112 from zI) (zR HO115.out) (by decide)) hk (fun _ h => h.2)) (fun _ h => h.1)) (KeepBut.trans (zK) hk (.inl rfl)) (hb) (hi); clear HO103 HO115 HK HB HI0; obtain ⟨HO103, HO115, HK, HB, HI0⟩ := n_; (try clear hb); (try clear hb2); (try clear hk); (try clear hi); have p15 : 0 ≤ (t110 : Int) := zD; have q15 : (t110 : Int) < ((t101.length : Int) : Int) := zD; obtain ⟨go15, co15, eo15, gb15, gl15, cl15, HG15⟩ := Kd.R_form HO103.out (by omega); (first | cases eo15 | (injection eo15 with ea_ en_ ec_; (first | subst ea_ | (injection ea_ with ea_; subst ea_)); subst ec_; clear en_)); have GB15 := Aside0.mk gb15; have GG15 := Aside0.mk HG15; clear gb15 gl15 HG15; obtain ⟨hx15_0, hf15_0⟩ := Kd.R_celln 0 HO103.out (t110 : Int) p15 q15; replace p15 := eq_true p15; replace q15 := eq_true q15; have n_ := Aside0.mk (Kd.R_mono (ok' := (fun k_ => some k_ ≠ (.slice Ao22 y113.length co22 : Value).ownBlock)) HO103.out (fun k_ hk => hk.2)); clear HO103; have HO103 := n_; clear n_; obtain ⟨hy24_, hz24_⟩ := Kd.R_celln 0 HO103.out (t110 : Int) (zD) (zD); have HP24 := Kd.R_putg HO103.out (t110 : Int) t116) | ((with_reducible refine gate_store (t := 2) (p := 23) rfl ?_); refine store_event (t := 2) (p := 23) (v := ?vo_w25) (w1 := (w23.setCell ⟨go15, (t110 : Int).toNat, none⟩ (.int .i64 t116))) ?hg ?ho ?hn ?hr ?_; (case ho => rfl); (case hg => rfl); (case hn => rfl); (case hr => first | (go_simp; done) | (go_simp; rfl)); intro w25 hw; have hg : w23.grownBy w25 (some go15) := (by rw [hw]; exact HP24.2); have hp_ : Kd.R (Kd.int .i64) 2 w25 w.heap.size (fun k_ => some k_ ≠ (.slice Ao22 y113.length co22 : Value).ownBlock) (.slice (some ⟨go15, 0, none⟩) t101.length co18) y119 := (by rw [hw, Ny119.out]; exact HP24.1); clear HP24; have n_ := y5 (IsS68.grown (zI) hg (IsS68.own_ne HI0.out HO103.out (by decide))) (hp_) (Kd.R_after (v := (.slice (some ⟨go15, 0, none⟩) t101.length co18)) (v1 := (.slice (some ⟨go15, 0, none⟩) t101.length co18)) (ok := (fun _ => True)) (zR HO115.out) hg (.inl rfl)) ((by rw [hw]; exact below_set (HB.out) (Nat.le_trans HL.out GB15.out) : Below w0.heap.size w0 w25)) (KeepBut.trans (zK) (KeepBut.of_grown hg g) (Kd.R_base2 HO103.out)); clear HI0 HO103 HO115 HB HK; obtain ⟨HI0, HO103, HO115, HB, HK⟩ := n_; clear hg hw hp_))
  go_ret
  exact ⟨_, zE, by refine zR ?_; exact Kd.R_mono HO103.out (fun _ hk => trivial), zI, zB, zK⟩
 rw [if_neg c10] at H
 have c10b0 : (t104 == 1) = false := beq_eq_false_iff_ne.mpr c10
 have c10b1 : (t104 != 1) = true := bne_iff_ne.mpr c10
 by_cases c26 : t104 = 2
 ·
  rw [if_pos c26] at H
  have c26b0 : (t104 == 2) = true := beq_iff_eq.mpr c26
  have c26b1 : (t104 != 2) = false := bne_eq_false_iff_eq.mpr c26
  clear c26
  have H' := Aside0.mk H
  clear H
  go_enter Try.func62, Try.ntmps62
  go_wp2_with (first | ((with_reducible refine gate_callee (f := 74) rfl ?_); refine goesL_ (some 7) rfl rfl Try.func74 zk rfl #[.slice A1 l1.length c1] rfl zA ?_; (with_reducible refine (spec_l01Own.calls _ _ l1 t101 _ ?side1 ?side2 A3.out).mono ?_); (case side1 => exact Kd.C_keep 0 HR1.out (zK) hf1); (case side2 => exact HC1.out); rintro e w27 ⟨v102, rfl, ho0, hb⟩; refine ⟨_, rfl, ?_⟩; have n_ := y4 (Kd.R_lower ho0 (keep_size (w := w) (g := g) (row := none) (zK))) (IsS68.below (zI) hb) (KeepBut.trans (zK) (KeepBut.of_below hb g none) (.inl rfl)) (below_step (zB) hb); clear HI0 HK HB; obtain ⟨HO103, HI0, HK, HB⟩ := n_; (try clear hb); (try clear hb2); (try clear hk); (try clear hi); (try clear ho0)) | ((with_reducible refine gate_callee (f := 60) rfl ?_); refine goesL_ (some 9) rfl rfl Try.func60 zk rfl #[.pointer (some ⟨g, 0, none⟩), .int .i64 40] rfl zA ?_; (with_reducible refine (spec_l01Next.calls g s0_0 s0_1 s0_2 40 t104 t105 t106 w0 _ ?side1 ?side2 A4.out).mono ?_); (case side1 => exact zI); (case side2 => exact zB); rintro e w28 ⟨rfl, hi, hb, hk⟩; refine ⟨_, rfl, ?_⟩; have n_ := y4 (Kd.R_mono (Kd.R_keep (IsS68.apart (show IsS68 w0 _ g s0_0 s0_1 s0_2 from zI) (zR HO103.out) (by decide)) hk (fun _ h => h.2)) (fun _ h => h.1)) (KeepBut.trans (zK) hk (.inl rfl)) (hb) (hi); clear HO103 HK HB HI0; obtain ⟨HO103, HK, HB, HI0⟩ := n_; (try clear hb); (try clear hb2); (try clear hk); (try clear hi)))
  go_loopg [5] k (fun kq v5 w' => ∃ (x5_1 : List Int), Aside0 (spec_l01BadTurns.l0 kq x5_1 s0_0 t105 t106 = some (r1, r2, r3)) ∧ Aside0 (kq ≤ k) ∧ Aside0 (Kd.R (Kd.int .i64) 2 w' w.heap.size (fun _ => True) v5 x5_1) ∧ Aside0 (IsS68 w0 w' g s0_0 t105 t106) ∧ Aside0 (KeepBut w w' g none) ∧ Aside0 (Below w0.heap.size w0 w'))
  case atStart => exact ⟨(t101), H', ⟨Nat.le_refl _⟩, ⟨zR HO103.out⟩, ⟨zI⟩, ⟨zK⟩, ⟨zB⟩⟩
  clear H'
  try clear c1
  try clear c5
  try clear c5b0
  try clear c5b1
  try clear c10
  try clear c10b0
  try clear c10b1
  try clear c26
  try clear c26b0
  try clear c26b1
  obtain ⟨x5_1, HA, HK1, HO_5, HI0, HK, HB⟩ := hrel
  cases gk with
  | zero => exact absurd HA.out (by simp [spec_l01BadTurns.l0])
  | succ k1 =>
    have H := HA.out
    clear HA
    simp only [spec_l01BadTurns.l0] at H
    by_cases c29 : (x5_1.length : Int) ≤ 120
    · rw [if_pos c29] at H
      have c29b0 : decide ((x5_1.length : Int) ≤ 120) = true := decide_eq_true c29
      have c29b1 : decide (x5_1.length ≤ 120) = true := decide_eq_true (by omega)
      clear c29
      by_cases c30 : x5_1.length < 17592186044416
      · rw [if_pos c30] at H
        have LMc30 := Aside0.mk c30
        clear c30
        obtain ⟨y120, hy120⟩ : ∃ y_ : List Int, y_ = (x5_1 ++ [(-1)]) := ⟨_, rfl⟩
        replace H : (spec_l01BadTurns.l0 k1 y120 s0_0 t105 t106) = some (r1, r2, r3) := zH hy120
        have Ny120 := Aside0.mk hy120
        clear hy120
        have H' := Aside0.mk H
        clear H
        obtain ⟨Ao31, co31, eo31⟩ := Kd.R_slice HO_5.out
        subst eo31
        go_wp2_with (first | ((with_reducible refine gate_builtin (b := .append) (xs := #[.tmp 29, .tmp 30]) rfl ?_); at_builtin; refine Kd.R_append (Kd.int .i64) w.heap.size rfl (.tmp 29) (.tmp 30) 24 2 (.int .i64 0) 8 rfl Try.underlying24 info2 rfl (by decide) (by omega) (.slice Ao31 x5_1.length co31) x5_1 (-1) [.int .i64 (-1)] (fun _ => True) (fun _ => False) rfl rfl ?aP (fun _ hk => hk.elim) ?aF ?aO (Below.refl _ _) ?aS ?aL ?_; (case aP => exact rfl); (case aF => exact (fun _ _ => trivial)); (case aO => exact (zR HO_5.out)); (case aS => exact (keep_size (w := w) (g := g) (row := none) (zK))); (case aL => have := LMc30.out; omega); intro v121 w32 ho hb hg hat; rw [← Ny120.out] at ho; have n_ := y4 (IsS68.grown (zI) hg (IsS68.own_ne HI0.out HO_5.out (by decide))) (below_weaken (zB) HL.out hb) (KeepBut.trans (zK) (KeepBut.of_grown hg g) (Kd.R_base2 HO_5.out)) (ho); clear HI0 HB HK HO_5; obtain ⟨HI0, HB, HK, HO122⟩ := n_; clear ho hb hg hat))
        go_roundg k1
        case measure => have := HK1.out; omega
        case rel => exact ⟨(y120), H', ⟨by have := HK1.out; omega⟩, ⟨zR HO122.out⟩, ⟨zI⟩, ⟨zK⟩, ⟨zB⟩⟩
      · rw [if_neg c30] at H
        exact absurd H (by simp)
    · rw [if_neg c29] at H
      have c29b0 : decide ((x5_1.length : Int) ≤ 120) = false := decide_eq_false c29
      have c29b1 : decide (x5_1.length ≤ 120) = false := decide_eq_false (by omega)
      clear c29
      simp only [Option.some.injEq, Prod.mk.injEq] at H
      obtain ⟨rfl, rfl, rfl⟩ := H
      obtain ⟨Ao33, co33, eo33⟩ := Kd.R_slice HO_5.out
      subst eo33
      go_wp2
      go_ret
      exact ⟨_, zE, zR HO_5.out, zI, zB, zK⟩
 rw [if_neg c26] at H
 have c26b0 : (t104 == 2) = false := beq_eq_false_iff_ne.mpr c26
 have c26b1 : (t104 != 2) = true := bne_iff_ne.mpr c26
 simp only [Option.some.injEq, Prod.mk.injEq] at H
 obtain ⟨rfl, rfl, rfl⟩ := H
 go_enter Try.func62, Try.ntmps62
 go_wp2_with (first | ((with_reducible refine gate_callee (f := 74) rfl ?_); refine goesL_ (some 7) rfl rfl Try.func74 zk rfl #[.slice A1 l1.length c1] rfl zA ?_; (with_reducible refine (spec_l01Own.calls _ _ l1 t101 _ ?side1 ?side2 A3.out).mono ?_); (case side1 => exact Kd.C_keep 0 HR1.out (zK) hf1); (case side2 => exact HC1.out); rintro e w34 ⟨v102, rfl, ho0, hb⟩; refine ⟨_, rfl, ?_⟩; have n_ := y4 (Kd.R_lower ho0 (keep_size (w := w) (g := g) (row := none) (zK))) (IsS68.below (zI) hb) (KeepBut.trans (zK) (KeepBut.of_below hb g none) (.inl rfl)) (below_step (zB) hb); clear HI0 HK HB; obtain ⟨HO103, HI0, HK, HB⟩ := n_; (try clear hb); (try clear hb2); (try clear hk); (try clear hi); (try clear ho0)) | ((with_reducible refine gate_callee (f := 60) rfl ?_); refine goesL_ (some 9) rfl rfl Try.func60 zk rfl #[.pointer (some ⟨g, 0, none⟩), .int .i64 40] rfl zA ?_; (with_reducible refine (spec_l01Next.calls g s0_0 s0_1 s0_2 40 t104 t105 t106 w0 _ ?side1 ?side2 A4.out).mono ?_); (case side1 => exact zI); (case side2 => exact zB); rintro e w35 ⟨rfl, hi, hb, hk⟩; refine ⟨_, rfl, ?_⟩; have n_ := y4 (Kd.R_mono (Kd.R_keep (IsS68.apart (show IsS68 w0 _ g s0_0 s0_1 s0_2 from zI) (zR HO103.out) (by decide)) hk (fun _ h => h.2)) (fun _ h => h.1)) (KeepBut.trans (zK) hk (.inl rfl)) (hb) (hi); clear HO103 HK HB HI0; obtain ⟨HO103, HK, HB, HI0⟩ := n_; (try clear hb); (try clear hb2); (try clear hk); (try clear hi)))
 go_ret
 exact ⟨_, zE, zR HO103.out, zI, zB, zK⟩
end Go.Proofs.Ytgmciimgmnnhmaa.P
end
section
namespace Go.Proofs.Ytgmciimgmnnhmaa.P
open Go.RowKit Go.Proofs.YtgmciimgmnnhmaaW.PrintWords Go.Proofs.YtgmciimgmnnhmaaW.PrintLast Go.Proofs.YtgmciimgmnnhmaaW.PrintMore
attribute [local go_sem] max2_int min2_int max_two min_two max_three min_three max_four min_four   -- for this text's walks alone
set_option linter.unusedVariables false
set_option linter.unusedSimpArgs false
def spec_l06Given.j0 : Nat → List Int → List Int → Bool → List Int → Int → Int → List Int → Option (List Int × List Int)
  | 0, _, _, _, _, _, _, _ => none
  | k + 1, x6, x7, x35, x106000, x106001, x106002, x112000 => if x35 = true then ((spec_l06Bad.f x106000 x106001 x106002 x112000).bind fun bt125 => ((spec_l01BadTurns.f k x106000 bt125.2.1 bt125.2.2 x7).bind fun bt130 => (some (bt125.1, bt130.1)))) else ((spec_l06Bad.f x106000 x106001 x106002 x112000).bind fun bt135 => ((spec_l01BadTurns.f k x106000 bt135.2.1 bt135.2.2 x6).bind fun bt140 => (some (bt135.1, bt140.1))))
def spec_l06Given.f (k : Nat) (l0 : List Int) : Option (List Int × List Int) := (spec_l01From.f k l0).bind fun bt102 => ((spec_l06DrawOf.f k bt102.1 bt102.2.1 bt102.2.2).bind fun bt106 => ((spec_l01DrawTurns.f k bt102.1 bt106.2.1 bt106.2.2 (bt106.1.length : Int)).bind fun bt112 => ((spec_l06Round.f k bt106.1 0).bind fun bt117 => (if bt117.2.2 = true then (if (bt117.1.length : Int) ≤ 120 then ((spec_l01Next.f bt102.1 bt112.2.1 bt112.2.2 2).bind fun bt122 => (spec_l06Given.j0 k bt112.1 bt117.1 (bt122.1 == 0) bt102.1 bt122.2.1 bt122.2.2 bt106.1)) else (spec_l06Given.j0 k bt112.1 bt117.1 false bt102.1 bt112.2.1 bt112.2.2 bt106.1)) else (spec_l06Given.j0 k bt112.1 bt117.1 false bt102.1 bt112.2.1 bt112.2.2 bt106.1)))))
theorem spec_l06Given.mono_l : ∀ k, (∀ y0 y1 y2 y3 y4 y5 y6, LeO (spec_l06Given.j0 k y0 y1 y2 y3 y4 y5 y6) (spec_l06Given.j0 (k + 1) y0 y1 y2 y3 y4 y5 y6))
  | 0 => fun _ _ _ _ _ _ _ r h => by simp [spec_l06Given.j0] at h
  | k + 1 => by
    have ih0 := spec_l06Given.mono_l k
    · intro y0 y1 y2 y3 y4 y5 y6
      unfold spec_l06Given.j0
      repeat' first | (with_reducible exact ih0 _ _ _ _ _ _ _) | (with_reducible exact spec_l01BadTurns.mono _ _ _ _ _) | (with_reducible exact spec_l01DrawTurns.mono _ _ _ _ _) | (with_reducible exact spec_l01From.mono _ _) | (with_reducible exact spec_l06DrawOf.mono _ _ _ _) | (with_reducible exact spec_l06Round.mono _ _ _) | (with_reducible exact LeO.refl _) | (with_reducible exact LeO.none _) | (with_reducible refine LeO.ite ?_ ?_) | (with_reducible refine LeO.bind ?_ (fun _ => ?_)) | exact ih0 _ _ _ _ _ _ _ | exact spec_l01BadTurns.mono _ _ _ _ _ | exact spec_l01DrawTurns.mono _ _ _ _ _ | exact spec_l01From.mono _ _ | exact spec_l06DrawOf.mono _ _ _ _ | exact spec_l06Round.mono _ _ _ | exact LeO.none _ | refine LeO.ite ?_ ?_ | refine LeO.bind ?_ (fun _ => ?_)
theorem spec_l06Given.mono : ∀ a0 k, LeO (spec_l06Given.f k a0) (spec_l06Given.f (k + 1) a0) := by
  intro a0 k
  have ih0 := spec_l06Given.mono_l k
  unfold spec_l06Given.f
  repeat' first | (with_reducible exact ih0 _ _ _ _ _ _ _) | (with_reducible exact spec_l01BadTurns.mono _ _ _ _ _) | (with_reducible exact spec_l01DrawTurns.mono _ _ _ _ _) | (with_reducible exact spec_l01From.mono _ _) | (with_reducible exact spec_l06DrawOf.mono _ _ _ _) | (with_reducible exact spec_l06Round.mono _ _ _) | (with_reducible exact LeO.refl _) | (with_reducible exact LeO.none _) | (with_reducible refine LeO.ite ?_ ?_) | (with_reducible refine LeO.bind ?_ (fun _ => ?_)) | exact ih0 _ _ _ _ _ _ _ | exact spec_l01BadTurns.mono _ _ _ _ _ | exact spec_l01DrawTurns.mono _ _ _ _ _ | exact spec_l01From.mono _ _ | exact spec_l06DrawOf.mono _ _ _ _ | exact spec_l06Round.mono _ _ _ | exact LeO.none _ | refine LeO.ite ?_ ?_ | refine LeO.bind ?_ (fun _ => ?_)
set_option maxHeartbeats 8000000 in
set_option maxRecDepth 100000 in
theorem spec_l06Given.calls (k : Nat) (A0 : Option Addr) (c0 : Nat) (l0 : List Int) (r1 : List Int) (r2 : List Int) (w : World) (hr0 : Kd.C (Kd.int .u8) w A0 l0.length l0) (hc0 : l0.length ≤ c0) (h : spec_l06Given.f k l0 = some (r1, r2)) :
    Calls Try.prog 25 #[.slice A0 l0.length c0] w fun e w' => ∃ v0_ v1_ : Value, e = .returned (.tuple #[.agg #[v0_], v1_]) ∧ Kd.R (Kd.int .i64) 2 w' w.heap.size (fun k_ => some k_ ≠ (v1_ : Value).ownBlock) v0_ r1 ∧ Kd.R (Kd.int .i64) 2 w' w.heap.size (fun k_ => some k_ ≠ (v0_ : Value).ownBlock) v1_ r2 ∧ Below w.heap.size w w' := by
 have hu26 := Try.underlying26
 have HR0 := Aside0.mk hr0
 have HC0 := Aside0.mk hc0
 clear hr0 hc0
 have HB := Aside0.mk (Below.refl w.heap.size w)
 have H : ((spec_l01From.f k l0).bind fun bt102 => ((spec_l06DrawOf.f k bt102.1 bt102.2.1 bt102.2.2).bind fun bt106 => ((spec_l01DrawTurns.f k bt102.1 bt106.2.1 bt106.2.2 (bt106.1.length : Int)).bind fun bt112 => ((spec_l06Round.f k bt106.1 0).bind fun bt117 => (if bt117.2.2 = true then (if (bt117.1.length : Int) ≤ 120 then ((spec_l01Next.f bt102.1 bt112.2.1 bt112.2.2 2).bind fun bt122 => (spec_l06Given.j0 k bt112.1 bt117.1 (bt122.1 == 0) bt102.1 bt122.2.1 bt122.2.2 bt106.1)) else (spec_l06Given.j0 k bt112.1 bt117.1 false bt102.1 bt112.2.1 bt112.2.2 bt106.1)) else (spec_l06Given.j0 k bt112.1 bt117.1 false bt102.1 bt112.2.1 bt112.2.2 bt106.1)))))) = some (r1, r2) := h
 clear h
 replace H := Option.bind_eq_some_iff.mp H
 obtain ⟨⟨t102, t103, t104⟩, A20, H⟩ := H
 replace H : ((spec_l06DrawOf.f k t102 t103 t104).bind fun bt106 => ((spec_l01DrawTurns.f k t102 bt106.2.1 bt106.2.2 (bt106.1.length : Int)).bind fun bt112 => ((spec_l06Round.f k bt106.1 0).bind fun bt117 => (if bt117.2.2 = true then (if (bt117.1.length : Int) ≤ 120 then ((spec_l01Next.f t102 bt112.2.1 bt112.2.2 2).bind fun bt122 => (spec_l06Given.j0 k bt112.1 bt117.1 (bt122.1 == 0) t102 bt122.2.1 bt122.2.2 bt106.1)) else (spec_l06Given.j0 k bt112.1 bt117.1 false t102 bt112.2.1 bt112.2.2 bt106.1)) else (spec_l06Given.j0 k bt112.1 bt117.1 false t102 bt112.2.1 bt112.2.2 bt106.1))))) = some (r1, r2) := H
 have A2 := Aside0.mk A20
 clear A20
 replace H := Option.bind_eq_some_iff.mp H
 obtain ⟨⟨t106, t109, t110⟩, A30, H⟩ := H
 replace H : ((spec_l01DrawTurns.f k t102 t109 t110 (t106.length : Int)).bind fun bt112 => ((spec_l06Round.f k t106 0).bind fun bt117 => (if bt117.2.2 = true then (if (bt117.1.length : Int) ≤ 120 then ((spec_l01Next.f t102 bt112.2.1 bt112.2.2 2).bind fun bt122 => (spec_l06Given.j0 k bt112.1 bt117.1 (bt122.1 == 0) t102 bt122.2.1 bt122.2.2 t106)) else (spec_l06Given.j0 k bt112.1 bt117.1 false t102 bt112.2.1 bt112.2.2 t106)) else (spec_l06Given.j0 k bt112.1 bt117.1 false t102 bt112.2.1 bt112.2.2 t106)))) = some (r1, r2) := H
 have A3 := Aside0.mk A30
 clear A30
 replace H := Option.bind_eq_some_iff.mp H
 obtain ⟨⟨t112, t115, t116⟩, A40, H⟩ := H
 replace H : ((spec_l06Round.f k t106 0).bind fun bt117 => (if bt117.2.2 = true then (if (bt117.1.length : Int) ≤ 120 then ((spec_l01Next.f t102 t115 t116 2).bind fun bt122 => (spec_l06Given.j0 k t112 bt117.1 (bt122.1 == 0) t102 bt122.2.1 bt122.2.2 t106)) else (spec_l06Given.j0 k t112 bt117.1 false t102 t115 t116 t106)) else (spec_l06Given.j0 k t112 bt117.1 false t102 t115 t116 t106))) = some (r1, r2) := H
 have A4 := Aside0.mk A40
 clear A40
 replace H := Option.bind_eq_some_iff.mp H
 obtain ⟨⟨t117, t120, t121⟩, A50, H⟩ := H
 replace H : (if t121 = true then (if (t117.length : Int) ≤ 120 then ((spec_l01Next.f t102 t115 t116 2).bind fun bt122 => (spec_l06Given.j0 k t112 t117 (bt122.1 == 0) t102 bt122.2.1 bt122.2.2 t106)) else (spec_l06Given.j0 k t112 t117 false t102 t115 t116 t106)) else (spec_l06Given.j0 k t112 t117 false t102 t115 t116 t106)) = some (r1, r2) := H
 have A5 := Aside0.mk A50
 clear A50
 have HC6 := Aside0.mk H
 clear H
 go_enter Try.func25, Try.ntmps25
 go_upto_region 5 with (first | ((with_reducible refine gate_dst (N := 2) rfl ?_); (try (refine gate_guard (by rfl) ?_; dsimp only)); refine box_event zr (N := 2) zr (cs := #[.slice none 0 0]) (t := 26) zg ?_; intro gb101 hg w7 hbox hb; have n_ := y4 (below_step (zB) hb) (hbox) ((zS hg : w.heap.size ≤ gb101)) ((zS hg : w.heap.size ≤ gb101)); clear HB; obtain ⟨HB, BK101, GW101, GE101⟩ := n_; clear hb hbox hg) | ((with_reducible refine gate_callee (f := 33) rfl ?_); refine goesL_ (some 11) rfl rfl Try.func33 zk rfl #[.slice A0 l0.length c0] rfl zA ?_; (with_reducible refine (spec_l01From.calls k _ _ l0 t102 t103 t104 w _ ?side1 ?side2 ?side3 A2.out).mono ?_); (case side1 => exact zB); (case side2 => exact HR0.out); (case side3 => exact HC0.out); rintro e w8 ⟨g105, rfl, hi, hb, hb2⟩; refine ⟨_, rfl, ?_⟩; have n_ := y5 (zb BK101.out hb2) (hb) (hi) (IsS68.ne_blk hi (zb BK101.out hb2) (by decide)) (Ne.symm (IsS68.ne_blk hi (zb BK101.out hb2) (by decide))); clear BK101 HB; obtain ⟨BK101, HB, HI105, NB105_101, NB101_105⟩ := n_; (try clear hb); (try clear hb2); (try clear hk); (try clear hi)) | ((with_reducible refine gate_callee (f := 57) rfl ?_); refine goesL_ (some 13) rfl rfl Try.func57 zk rfl #[.pointer (some ⟨g105, 0, none⟩)] rfl zA ?_; (with_reducible refine (spec_l06DrawOf.calls k g105 t102 t103 t104 t106 t109 t110 w _ ?side1 ?side2 A3.out).mono ?_); (case side1 => exact zX HI105.out); (case side2 => exact zB); rintro e w9 ⟨v107, rfl, ho0, hi, hb, hk⟩; refine ⟨_, rfl, ?_⟩; have n_ := y4 (KeepBut.blk hk (g' := gb101) (o := .cells #[.slice none 0 0] 26 (0, 0)) (zG BK101.out) NB101_105.out (by simp)) (Kd.R_lower ho0 (below_size (zB))) (hb) (hi); clear BK101 HB HI105; obtain ⟨BK101, HO108, HB, HI105⟩ := n_; (try clear hb); (try clear hb2); (try clear hk); (try clear hi); (try clear ho0)) | ((with_reducible refine gate_dst (N := 5) rfl ?_); (try (refine gate_guard (by rfl) ?_; dsimp only)); refine box_event zr (N := 5) zr (cs := #[.slice none 0 0]) (t := 26) zg ?_; intro gb111 hg w10 hbox hb; have n_ := y11 (Kd.R_below (zR HO108.out) hb) (zb BK101.out hb) (IsS68.below (zX HI105.out) hb) (below_step (zB) hb) (hbox) ((zS hg : w.heap.size ≤ gb111)) ((zS hg : w.heap.size ≤ gb111)) ((zL hg BK101.out : gb101 ≠ gb111)) ((zM hg BK101.out : gb111 ≠ gb101)) ((by rw [hg]; exact Nat.ne_of_lt (IsS68.lt (show IsS68 w _ g105 t102 t109 t110 from zX HI105.out)) : g105 ≠ gb111)) ((by rw [hg]; exact Nat.ne_of_gt (IsS68.lt (show IsS68 w _ g105 t102 t109 t110 from zX HI105.out)) : gb111 ≠ g105)); clear HO108 BK101 HI105 HB; obtain ⟨HO108, BK101, HI105, HB, BK111, GW111, GE111, NB101_111, NB111_101, NB105_111, NB111_105⟩ := n_; clear hb hbox hg; obtain ⟨Ao11, co11, eo11⟩ := Kd.R_slice HO108.out; subst eo11; have hnb12 := NB111_101.out; have hnc12 := NB101_111.out; have hnb13 := NB111_105.out; have hnc13 := NB105_111.out; have hcz14_0 := zc BK111.out; have hfz14_0 := blk_frozen BK111.out 0) | ((with_reducible refine gate_callee (f := 58) rfl ?_); refine goesL_ (some 18) rfl rfl Try.func58 zk rfl #[.pointer (some ⟨g105, 0, none⟩), .int .i64 (t106.length : Int)] rfl zA ?_; (with_reducible refine (spec_l01DrawTurns.calls k g105 t102 t109 t110 (t106.length : Int) t112 t115 t116 w _ ?side1 ?side2 A4.out).mono ?_); (case side1 => exact zX HI105.out); (case side2 => exact zB); rintro e w15 ⟨v113, rfl, ho0, hi, hb, hk⟩; refine ⟨_, rfl, ?_⟩; have n_ := y6 (KeepBut.blk hk (g' := gb101) (o := .cells #[.slice none 0 0] 26 (0, 0)) (by refine zG ?_; refine blk_far ?_ NB101_111.out _; refine zG ?_; exact BK101.out) NB101_105.out (by simp)) (Kd.R_mono (Kd.R_told (Kd.R_oldK (IsS68.apart (show IsS68 w _ g105 t102 t109 t110 from zX HI105.out) (by refine zR ?_; exact (Kd.R_mono (Kd.R_far (p := ⟨gb111, 0, none⟩) (Kd.R_types HO108.out BK111.out (by decide)) (fun _ hk => hk.2) (.slice Ao11 t106.length co11)) (fun _ h_ => h_.1))) (by decide)) hk) (Kd.R_base ho0)) (fun _ h_ => h_.1)) (KeepBut.blk hk (g' := gb111) (o := .cells #[.slice Ao11 t106.length co11] 26 (0, 0)) (by refine zG ?_; refine blk_put (cs := #[.slice none 0 0]) ?_ 0 _ rfl; refine zG ?_; exact BK111.out) NB111_105.out (by simp)) (Kd.R_lower (Kd.R_new' ho0 (Kd.R_lt (by refine zR ?_; exact (Kd.R_mono (Kd.R_far (p := ⟨gb111, 0, none⟩) (Kd.R_types HO108.out BK111.out (by decide)) (fun _ hk => hk.2) (.slice Ao11 t106.length co11)) (fun _ h_ => h_.1))))) (below_size (zB))) (hb) (hi); clear BK101 HO108 BK111 HB HI105; obtain ⟨BK101, HO108, BK111, HO114, HB, HI105⟩ := n_; (try clear hb); (try clear hb2); (try clear hk); (try clear hi); (try clear ho0); have hcz16_0 := zc BK111.out; have hfz16_0 := blk_frozen BK111.out 0) | ((with_reducible refine gate_callee (f := 59) rfl ?_); refine goesL_ (some 21) rfl rfl Try.func59 zk rfl #[.agg #[.slice Ao11 t106.length co11], .int .i64 0] rfl zA ?_; (with_reducible refine (spec_l06Round.calls k _ _ t106 0 t117 t120 t121 _ ?side1 ?side2 A5.out).mono ?_); (case side1 => exact zC (Kd.R_reads' HO108.out).2.2); (case side2 => exact (Kd.R_reads' HO108.out).2.1); rintro e w17 ⟨v118, rfl, ho0, hb⟩; refine ⟨_, rfl, ?_⟩; have n_ := y7 (Kd.R_elder' (zR HO108.out) (Kd.R_base ho0) hb) (Kd.R_elder' (zR HO114.out) (Kd.R_base ho0) hb) (Kd.R_lower (Kd.R_new' (Kd.R_new' ho0 (Kd.R_lt (zR HO108.out))) (Kd.R_lt (zR HO114.out))) (below_size (zB))) (zb BK101.out hb) (IsS68.below (zX HI105.out) hb) (zb BK111.out hb) (below_step (zB) hb); clear HO108 HO114 BK101 HI105 BK111 HB; obtain ⟨HO108, HO114, HO119, BK101, HI105, BK111, HB⟩ := n_; (try clear hb); (try clear hb2); (try clear hk); (try clear hi); (try clear ho0)))
 (try simp only [Act.put, List.setIfInBounds_toArray, List.set_cons_zero, List.set_cons_succ])
 go_cut [35] (fun v35 wc => ∃ (kq : Nat) (x35_5 : Bool) (x106001_5 : Int) (x106002_5 : Int), v35 = .bool x35_5 ∧ Aside0 (spec_l06Given.j0 kq t112 t117 x35_5 t102 x106001_5 x106002_5 t106 = some (r1, r2)) ∧ Aside0 (kq ≤ k) ∧ Aside0 (Kd.R (Kd.int .i64) 2 wc w.heap.size (fun k_ => some k_ ≠ (v118 : Value).ownBlock ∧ some k_ ≠ ((.slice Ao11 t106.length co11) : Value).ownBlock) v113 t112) ∧ Aside0 (Kd.R (Kd.int .i64) 2 wc w.heap.size (fun k_ => some k_ ≠ (v113 : Value).ownBlock ∧ some k_ ≠ ((.slice Ao11 t106.length co11) : Value).ownBlock) v118 t117) ∧ Aside0 (Kd.R (Kd.int .i64) 2 wc w.heap.size (fun k_ => some k_ ≠ (v113 : Value).ownBlock ∧ some k_ ≠ (v118 : Value).ownBlock) (.slice Ao11 t106.length co11) t106) ∧ Aside0 (wc.heap[gb101]? = some (.cells #[(.slice none 0 0)] 26 (0, 0))) ∧ Aside0 (wc.heap[gb111]? = some (.cells #[(.slice Ao11 t106.length co11)] 26 (0, 0))) ∧ Aside0 (IsS68 w wc g105 t102 x106001_5 x106002_5) ∧ Aside0 (Below w.heap.size w wc))
 case first =>
  have H := HC6.out
  clear HC6
  by_cases c18 : t121 = true
  ·
   subst c18
   have H1 : (if (t117.length : Int) ≤ 120 then ((spec_l01Next.f t102 t115 t116 2).bind fun bt122 => (spec_l06Given.j0 k t112 t117 (bt122.1 == 0) t102 bt122.2.1 bt122.2.2 t106)) else (spec_l06Given.j0 k t112 t117 false t102 t115 t116 t106)) = some (r1, r2) := by rw [if_pos rfl] at H; exact H
   clear H
   have H := H1
   clear H1
   by_cases c19 : (t117.length : Int) ≤ 120
   ·
    rw [if_pos c19] at H
    have c19b0 : decide ((t117.length : Int) ≤ 120) = true := decide_eq_true c19
    have c19b1 : decide (t117.length ≤ 120) = true := decide_eq_true (by omega)
    clear c19
    (first | rw [c19b0] | (simp only [i64_w, i32_w]; rw [c19b0]) | skip)
    replace H := Option.bind_eq_some_iff.mp H
    obtain ⟨⟨t122, t123, t124⟩, A200, H⟩ := H
    replace H : (spec_l06Given.j0 k t112 t117 (t122 == 0) t102 t123 t124 t106) = some (r1, r2) := H
    have A20 := Aside0.mk A200
    clear A200
    have H' := Aside0.mk H
    clear H
    obtain ⟨Ao21, co21, eo21⟩ := Kd.R_slice HO119.out
    subst eo21
    go_wp2_with (first | (go_at_call 60; (with_reducible refine (spec_l01Next.calls g105 t102 t115 t116 2 t122 t123 t124 w _ ?side1 ?side2 A20.out).mono ?_); (case side1 => exact zX HI105.out); (case side2 => exact zB); rintro e w22 ⟨rfl, hi, hb, hk⟩; have n_ := y7 (KeepBut.blk hk (g' := gb101) (o := .cells #[.slice none 0 0] 26 (0, 0)) (zG BK101.out) NB101_105.out (by simp)) (Kd.R_mono (Kd.R_keep (IsS68.apart (show IsS68 w _ g105 t102 t115 t116 from zX HI105.out) (zR HO108.out) (by decide)) hk (fun _ h => h.2)) (fun _ h => h.1)) (KeepBut.blk hk (g' := gb111) (o := .cells #[.slice Ao11 t106.length co11] 26 (0, 0)) (zG BK111.out) NB111_105.out (by simp)) (Kd.R_mono (Kd.R_keep (IsS68.apart (show IsS68 w _ g105 t102 t115 t116 from zX HI105.out) (zR HO114.out) (by decide)) hk (fun _ h => h.2)) (fun _ h => h.1)) (Kd.R_mono (Kd.R_keep (IsS68.apart (show IsS68 w _ g105 t102 t115 t116 from zX HI105.out) (zR HO119.out) (by decide)) hk (fun _ h => h.2)) (fun _ h => h.1)) (hb) (hi); clear BK101 HO108 BK111 HO114 HO119 HB HI105; obtain ⟨BK101, HO108, BK111, HO114, HO119, HB, HI105⟩ := n_; (try clear hb); (try clear hb2); (try clear hk); (try clear hi)))
    go_meet
    case rel => exact ⟨_, ((t122 == 0)), (t123), (t124), zF, H', ⟨by first | omega | exact Nat.le_refl _⟩, ⟨by refine zR ?_; exact Kd.R_mono HO114.out (fun _ hk => ⟨hk.2, hk.1.2⟩)⟩, ⟨by refine zR ?_; exact Kd.R_mono HO119.out (fun _ hk => ⟨hk.2, hk.1.2⟩)⟩, ⟨by refine zR ?_; exact Kd.R_mono HO108.out (fun _ hk => ⟨hk.1.2, hk.2⟩)⟩, ⟨zG BK101.out⟩, ⟨zG BK111.out⟩, ⟨zX HI105.out⟩, ⟨zB⟩⟩
   rw [if_neg c19] at H
   have c19b0 : decide ((t117.length : Int) ≤ 120) = false := decide_eq_false c19
   have c19b1 : decide (t117.length ≤ 120) = false := decide_eq_false (by omega)
   clear c19
   (first | rw [c19b0] | (simp only [i64_w, i32_w]; rw [c19b0]) | skip)
   have H' := Aside0.mk H
   clear H
   obtain ⟨Ao23, co23, eo23⟩ := Kd.R_slice HO119.out
   subst eo23
   go_wp2
   go_meet
   case rel => exact ⟨_, (false), (t115), (t116), zF, H', ⟨by first | omega | exact Nat.le_refl _⟩, ⟨by refine zR ?_; exact Kd.R_mono HO114.out (fun _ hk => ⟨hk.2, hk.1.2⟩)⟩, ⟨by refine zR ?_; exact Kd.R_mono HO119.out (fun _ hk => ⟨hk.2, hk.1.2⟩)⟩, ⟨by refine zR ?_; exact Kd.R_mono HO108.out (fun _ hk => ⟨hk.1.2, hk.2⟩)⟩, ⟨zG BK101.out⟩, ⟨zG BK111.out⟩, ⟨zX HI105.out⟩, ⟨zB⟩⟩
  replace c18 := Bool.eq_false_iff.mpr c18
  subst c18
  have H1 : (spec_l06Given.j0 k t112 t117 false t102 t115 t116 t106) = some (r1, r2) := by rw [if_neg (show ¬ (false = true) by decide)] at H; exact H
  clear H
  have H := H1
  clear H1
  have H' := Aside0.mk H
  clear H
  go_wp2
  go_meet
  case rel => exact ⟨_, (false), (t115), (t116), zF, H', ⟨by first | omega | exact Nat.le_refl _⟩, ⟨by refine zR ?_; exact Kd.R_mono HO114.out (fun _ hk => ⟨hk.2, hk.1.2⟩)⟩, ⟨by refine zR ?_; exact Kd.R_mono HO119.out (fun _ hk => ⟨hk.2, hk.1.2⟩)⟩, ⟨by refine zR ?_; exact Kd.R_mono HO108.out (fun _ hk => ⟨hk.1.2, hk.2⟩)⟩, ⟨zG BK101.out⟩, ⟨zG BK111.out⟩, ⟨zX HI105.out⟩, ⟨zB⟩⟩
 clear HC6
 try clear hcz14_0
 try clear hcz16_0
 try clear hfz14_0
 try clear hfz16_0
 obtain ⟨kq, x35_5, x106001_5, x106002_5, rfl, HA, HJ5, HO_6, HO_7, HO_112000, BK101, BK111, HI105, HB⟩ := hcut
 cases kq with
 | zero => exact absurd HA.out (by simp [spec_l06Given.j0])
 | succ kj5 =>
   have H := HA.out
   clear HA
   simp only [spec_l06Given.j0] at H
   by_cases c24 : x35_5 = true
   · subst c24
     have H1 : ((spec_l06Bad.f t102 x106001_5 x106002_5 t106).bind fun bt125 => ((spec_l01BadTurns.f kj5 t102 bt125.2.1 bt125.2.2 t117).bind fun bt130 => (some (bt125.1, bt130.1)))) = some (r1, r2) := by rw [if_pos rfl] at H; exact H
     clear H
     have H := H1
     clear H1
     replace H := Option.bind_eq_some_iff.mp H
     obtain ⟨⟨t125, t128, t129⟩, A250, H⟩ := H
     replace H : ((spec_l01BadTurns.f kj5 t102 t128 t129 t117).bind fun bt130 => (some (t125, bt130.1))) = some (r1, r2) := H
     have A25 := Aside0.mk A250
     clear A250
     replace H := Option.bind_eq_some_iff.mp H
     obtain ⟨⟨t130, t133, t134⟩, A260, H⟩ := H
     replace H : (some (t125, t130)) = some (r1, r2) := H
     have A26 := Aside0.mk A260
     clear A260
     simp only [Option.some.injEq, Prod.mk.injEq] at H
     obtain ⟨rfl, rfl⟩ := H
     have hnb27 := NB111_101.out
     have hnc27 := NB101_111.out
     have hnb28 := NB111_105.out
     have hnc28 := NB105_111.out
     have hcz29_0 := zc BK111.out
     have hfz29_0 := blk_frozen BK111.out 0
     go_wp2_with (first | ((with_reducible refine gate_callee (f := 61) rfl ?_); refine goesL_ (some 39) rfl rfl Try.func61 zk rfl #[.pointer (some ⟨g105, 0, none⟩), .agg #[.slice Ao11 t106.length co11]] rfl zA ?_; (with_reducible refine (spec_l06Bad.calls g105 t102 x106001_5 x106002_5 (fun k_ => some k_ = (.slice Ao11 t106.length co11 : Value).ownBlock) (.slice Ao11 t106.length co11) t106 t125 t128 t129 w _ ?side1 ?side2 ?side3 A25.out).mono ?_); (case side1 => exact zX HI105.out); (case side2 => exact zB); (case side3 => exact Kd.R_tight rfl HO_112000.out); rintro e w30 ⟨v126, rfl, ho0, hi, hb, hkp⟩; refine ⟨_, rfl, ?_⟩; have n_ := y7 (Kd.R_mono (ok' := fun k_ => some k_ ≠ (v118 : Value).ownBlock ∧ some k_ ≠ (v126 : Value).ownBlock) (Kd.R_keptB ((IsS68.apart HI105.out HO_6.out (by decide))) hkp (fun k_ hk_ hs_ => Or.elim hs_ (fun hs_ => (hk_.1.2) hs_) (fun e_ => (hk_.2) e_))) (fun k_ hk_ => ⟨hk_.1.1.1, fun e_ => Or.elim (ho0.1 k_ e_.symm) (fun hs_ => by first | exact hk_.2.1 hs_ | exact hk_.2.1 (.inl hs_)) (fun hn_ => Nat.not_le.2 hk_.2.2 hn_)⟩)) (Kd.R_mono (ok' := fun k_ => some k_ ≠ (v113 : Value).ownBlock ∧ some k_ ≠ (v126 : Value).ownBlock) (Kd.R_keptB ((IsS68.apart HI105.out HO_7.out (by decide))) hkp (fun k_ hk_ hs_ => Or.elim hs_ (fun hs_ => (hk_.1.2) hs_) (fun e_ => (hk_.2) e_))) (fun k_ hk_ => ⟨hk_.1.1.1, fun e_ => Or.elim (ho0.1 k_ e_.symm) (fun hs_ => by first | exact hk_.2.1 hs_ | exact hk_.2.1 (.inl hs_)) (fun hn_ => Nat.not_le.2 hk_.2.2 hn_)⟩)) (blk_kept (zG BK101.out) hkp (fun hs_ => Or.elim hs_ (fun hs_ => (fun e_ => (Kd.R_ne HO_112000.out BK101.out (by decide)) e_) hs_) (fun e_ => NB101_105.out e_))) (blk_kept (zG BK111.out) hkp (fun hs_ => Or.elim hs_ (fun hs_ => (fun e_ => (Kd.R_ne HO_112000.out BK111.out (by decide)) e_) hs_) (fun e_ => NB111_105.out e_))) (hi) (Kd.R_mono (ok' := fun k_ => some k_ ≠ (v113 : Value).ownBlock ∧ some k_ ≠ (v118 : Value).ownBlock) ho0 (fun k_ hk_ => ⟨Or.elim hk_ (fun hs_ => fun e_ => ((((IsS68.apart HI105.out HO_6.out (by decide))).1 k_ e_.symm).1.2) hs_) (fun hn_ => (Kd.fresh' (Kd.R_lt (zR HO_6.out)) k_ hn_)), Or.elim hk_ (fun hs_ => fun e_ => ((((IsS68.apart HI105.out HO_7.out (by decide))).1 k_ e_.symm).1.2) hs_) (fun hn_ => (Kd.fresh' (Kd.R_lt (zR HO_7.out)) k_ hn_))⟩)) (hb); clear HO_6 HO_7 BK101 BK111 HI105 HB HO_112000; obtain ⟨HO_6, HO_7, BK101, BK111, HI105, HO127, HB⟩ := n_; (try clear hb); (try clear hkp); (try clear ho0); obtain ⟨Ao31, co31, eo31⟩ := Kd.R_slice HO_7.out; subst eo31) | ((with_reducible refine gate_callee (f := 62) rfl ?_); refine goesL_ (some 42) rfl rfl Try.func62 zk rfl #[.pointer (some ⟨g105, 0, none⟩), .slice Ao31 t117.length co31] rfl zA ?_; (with_reducible refine (spec_l01BadTurns.calls kj5 g105 t102 t128 t129 _ _ t117 t130 t133 t134 w _ ?side1 ?side2 ?side3 ?side4 ?side5 A26.out).mono ?_); (case side1 => exact zX HI105.out); (case side2 => exact zB); (case side3 => exact zC (Kd.R_reads' HO_7.out).2.2); (case side4 => exact (Kd.R_reads' HO_7.out).2.1); (case side5 => exact far_slice (IsS68.own_ne HI105.out HO_7.out (by decide))); rintro e w32 ⟨v131, rfl, ho0, hi, hb, hk⟩; refine ⟨_, rfl, ?_⟩; have n_ := y8 (Kd.R_mono (Kd.R_told (Kd.R_oldK (IsS68.apart (show IsS68 w _ g105 t102 t128 t129 from zX HI105.out) (zR HO_6.out) (by decide)) hk) (Kd.R_base ho0)) (fun _ h_ => h_.1)) (Kd.R_mono (Kd.R_told (Kd.R_oldK (IsS68.apart (show IsS68 w _ g105 t102 t128 t129 from zX HI105.out) (zR HO_7.out) (by decide)) hk) (Kd.R_base ho0)) (fun _ h_ => h_.1)) (KeepBut.blk hk (g' := gb101) (o := .cells #[.slice none 0 0] 26 (0, 0)) (zG BK101.out) NB101_105.out (by simp)) (KeepBut.blk hk (g' := gb111) (o := .cells #[.slice Ao11 t106.length co11] 26 (0, 0)) (zG BK111.out) NB111_105.out (by simp)) (Kd.R_mono (Kd.R_told (Kd.R_oldK (IsS68.apart (show IsS68 w _ g105 t102 t128 t129 from zX HI105.out) (zR HO127.out) (by decide)) hk) (Kd.R_base ho0)) (fun _ h_ => h_.1)) (Kd.R_lower (Kd.R_new' (Kd.R_new' (Kd.R_new' ho0 (Kd.R_lt (zR HO_6.out))) (Kd.R_lt (zR HO_7.out))) (Kd.R_lt (zR HO127.out))) (below_size (zB))) (hb) (hi); clear HO_6 HO_7 BK101 BK111 HO127 HB HI105; obtain ⟨HO_6, HO_7, BK101, BK111, HO127, HO132, HB, HI105⟩ := n_; (try clear hb); (try clear hb2); (try clear hk); (try clear hi); (try clear ho0); obtain ⟨Ao33, co33, eo33⟩ := Kd.R_slice HO127.out; subst eo33; have hnb34 := NB101_105.out; have hnc34 := NB105_101.out; have hcz35_0 := zc BK101.out; have hfz35_0 := blk_frozen BK101.out 0))
     refine bodyPost_ret (results_ct rfl _ _ gb101 26 #[.slice Ao33 t125.length co33] (0, 0) _ rfl (by refine zG ?_; refine blk_put (cs := #[.slice none 0 0]) ?_ 0 _ rfl; refine zG ?_; exact BK101.out) Try.underlying26 rfl zk) rfl ?_
     exact ⟨_, _, zE, by refine zR ?_; exact Kd.R_mono (Kd.R_far (p := ⟨gb101, 0, none⟩) (Kd.R_types HO127.out BK101.out (by decide)) (fun _ hk => hk.2) (.slice Ao33 t125.length co33)) (fun _ hk => hk.1.2), by refine zR ?_; exact Kd.R_mono (Kd.R_far (p := ⟨gb101, 0, none⟩) (Kd.R_types HO132.out BK101.out (by decide)) (fun _ hk => hk.2) (.slice Ao33 t125.length co33)) (fun _ hk => hk.1.2), zB⟩
   · replace c24 := Bool.eq_false_iff.mpr c24
     subst c24
     have H1 : ((spec_l06Bad.f t102 x106001_5 x106002_5 t106).bind fun bt135 => ((spec_l01BadTurns.f kj5 t102 bt135.2.1 bt135.2.2 t112).bind fun bt140 => (some (bt135.1, bt140.1)))) = some (r1, r2) := by rw [if_neg (show ¬ (false = true) by decide)] at H; exact H
     clear H
     have H := H1
     clear H1
     replace H := Option.bind_eq_some_iff.mp H
     obtain ⟨⟨t135, t138, t139⟩, A360, H⟩ := H
     replace H : ((spec_l01BadTurns.f kj5 t102 t138 t139 t112).bind fun bt140 => (some (t135, bt140.1))) = some (r1, r2) := H
     have A36 := Aside0.mk A360
     clear A360
     replace H := Option.bind_eq_some_iff.mp H
     obtain ⟨⟨t140, t143, t144⟩, A370, H⟩ := H
     replace H : (some (t135, t140)) = some (r1, r2) := H
     have A37 := Aside0.mk A370
     clear A370
     simp only [Option.some.injEq, Prod.mk.injEq] at H
     obtain ⟨rfl, rfl⟩ := H
     have hnb38 := NB111_101.out
     have hnc38 := NB101_111.out
     have hnb39 := NB111_105.out
     have hnc39 := NB105_111.out
     have hcz40_0 := zc BK111.out
     have hfz40_0 := blk_frozen BK111.out 0
     go_wp2_with (first | ((with_reducible refine gate_callee (f := 61) rfl ?_); refine goesL_ (some 39) rfl rfl Try.func61 zk rfl #[.pointer (some ⟨g105, 0, none⟩), .agg #[.slice Ao11 t106.length co11]] rfl zA ?_; (with_reducible refine (spec_l06Bad.calls g105 t102 x106001_5 x106002_5 (fun k_ => some k_ = (.slice Ao11 t106.length co11 : Value).ownBlock) (.slice Ao11 t106.length co11) t106 t135 t138 t139 w _ ?side1 ?side2 ?side3 A36.out).mono ?_); (case side1 => exact zX HI105.out); (case side2 => exact zB); (case side3 => exact Kd.R_tight rfl HO_112000.out); rintro e w41 ⟨v136, rfl, ho0, hi, hb, hkp⟩; refine ⟨_, rfl, ?_⟩; have n_ := y7 (Kd.R_mono (ok' := fun k_ => some k_ ≠ (v118 : Value).ownBlock ∧ some k_ ≠ (v136 : Value).ownBlock) (Kd.R_keptB ((IsS68.apart HI105.out HO_6.out (by decide))) hkp (fun k_ hk_ hs_ => Or.elim hs_ (fun hs_ => (hk_.1.2) hs_) (fun e_ => (hk_.2) e_))) (fun k_ hk_ => ⟨hk_.1.1.1, fun e_ => Or.elim (ho0.1 k_ e_.symm) (fun hs_ => by first | exact hk_.2.1 hs_ | exact hk_.2.1 (.inl hs_)) (fun hn_ => Nat.not_le.2 hk_.2.2 hn_)⟩)) (Kd.R_mono (ok' := fun k_ => some k_ ≠ (v113 : Value).ownBlock ∧ some k_ ≠ (v136 : Value).ownBlock) (Kd.R_keptB ((IsS68.apart HI105.out HO_7.out (by decide))) hkp (fun k_ hk_ hs_ => Or.elim hs_ (fun hs_ => (hk_.1.2) hs_) (fun e_ => (hk_.2) e_))) (fun k_ hk_ => ⟨hk_.1.1.1, fun e_ => Or.elim (ho0.1 k_ e_.symm) (fun hs_ => by first | exact hk_.2.1 hs_ | exact hk_.2.1 (.inl hs_)) (fun hn_ => Nat.not_le.2 hk_.2.2 hn_)⟩)) (blk_kept (zG BK101.out) hkp (fun hs_ => Or.elim hs_ (fun hs_ => (fun e_ => (Kd.R_ne HO_112000.out BK101.out (by decide)) e_) hs_) (fun e_ => NB101_105.out e_))) (blk_kept (zG BK111.out) hkp (fun hs_ => Or.elim hs_ (fun hs_ => (fun e_ => (Kd.R_ne HO_112000.out BK111.out (by decide)) e_) hs_) (fun e_ => NB111_105.out e_))) (hi) (Kd.R_mono (ok' := fun k_ => some k_ ≠ (v113 : Value).ownBlock ∧ some k_ ≠ (v118 : Value).ownBlock) ho0 (fun k_ hk_ => ⟨Or.elim hk_ (fun hs_ => fun e_ => ((((IsS68.apart HI105.out HO_6.out (by decide))).1 k_ e_.symm).1.2) hs_) (fun hn_ => (Kd.fresh' (Kd.R_lt (zR HO_6.out)) k_ hn_)), Or.elim hk_ (fun hs_ => fun e_ => ((((IsS68.apart HI105.out HO_7.out (by decide))).1 k_ e_.symm).1.2) hs_) (fun hn_ => (Kd.fresh' (Kd.R_lt (zR HO_7.out)) k_ hn_))⟩)) (hb); clear HO_6 HO_7 BK101 BK111 HI105 HB HO_112000; obtain ⟨HO_6, HO_7, BK101, BK111, HI105, HO137, HB⟩ := n_; (try clear hb); (try clear hkp); (try clear ho0); obtain ⟨Ao42, co42, eo42⟩ := Kd.R_slice HO_6.out; subst eo42) | ((with_reducible refine gate_callee (f := 62) rfl ?_); refine goesL_ (some 42) rfl rfl Try.func62 zk rfl #[.pointer (some ⟨g105, 0, none⟩), .slice Ao42 t112.length co42] rfl zA ?_; (with_reducible refine (spec_l01BadTurns.calls kj5 g105 t102 t138 t139 _ _ t112 t140 t143 t144 w _ ?side1 ?side2 ?side3 ?side4 ?side5 A37.out).mono ?_); (case side1 => exact zX HI105.out); (case side2 => exact zB); (case side3 => exact zC (Kd.R_reads' HO_6.out).2.2); (case side4 => exact (Kd.R_reads' HO_6.out).2.1); (case side5 => exact far_slice (IsS68.own_ne HI105.out HO_6.out (by decide))); rintro e w43 ⟨v141, rfl, ho0, hi, hb, hk⟩; refine ⟨_, rfl, ?_⟩; have n_ := y8 (Kd.R_mono (Kd.R_told (Kd.R_oldK (IsS68.apart (show IsS68 w _ g105 t102 t138 t139 from zX HI105.out) (zR HO_6.out) (by decide)) hk) (Kd.R_base ho0)) (fun _ h_ => h_.1)) (Kd.R_mono (Kd.R_told (Kd.R_oldK (IsS68.apart (show IsS68 w _ g105 t102 t138 t139 from zX HI105.out) (zR HO_7.out) (by decide)) hk) (Kd.R_base ho0)) (fun _ h_ => h_.1)) (KeepBut.blk hk (g' := gb101) (o := .cells #[.slice none 0 0] 26 (0, 0)) (zG BK101.out) NB101_105.out (by simp)) (KeepBut.blk hk (g' := gb111) (o := .cells #[.slice Ao11 t106.length co11] 26 (0, 0)) (zG BK111.out) NB111_105.out (by simp)) (Kd.R_mono (Kd.R_told (Kd.R_oldK (IsS68.apart (show IsS68 w _ g105 t102 t138 t139 from zX HI105.out) (zR HO137.out) (by decide)) hk) (Kd.R_base ho0)) (fun _ h_ => h_.1)) (Kd.R_lower (Kd.R_new' (Kd.R_new' (Kd.R_new' ho0 (Kd.R_lt (zR HO_6.out))) (Kd.R_lt (zR HO_7.out))) (Kd.R_lt (zR HO137.out))) (below_size (zB))) (hb) (hi); clear HO_6 HO_7 BK101 BK111 HO137 HB HI105; obtain ⟨HO_6, HO_7, BK101, BK111, HO137, HO142, HB, HI105⟩ := n_; (try clear hb); (try clear hb2); (try clear hk); (try clear hi); (try clear ho0); obtain ⟨Ao44, co44, eo44⟩ := Kd.R_slice HO137.out; subst eo44; have hnb45 := NB101_105.out; have hnc45 := NB105_101.out; have hcz46_0 := zc BK101.out; have hfz46_0 := blk_frozen BK101.out 0))
     refine bodyPost_ret (results_ct rfl _ _ gb101 26 #[.slice Ao44 t135.length co44] (0, 0) _ rfl (by refine zG ?_; refine blk_put (cs := #[.slice none 0 0]) ?_ 0 _ rfl; refine zG ?_; exact BK101.out) Try.underlying26 rfl zk) rfl ?_
     exact ⟨_, _, zE, by refine zR ?_; exact Kd.R_mono (Kd.R_far (p := ⟨gb101, 0, none⟩) (Kd.R_types HO137.out BK101.out (by decide)) (fun _ hk => hk.2) (.slice Ao44 t135.length co44)) (fun _ hk => hk.1.2), by refine zR ?_; exact Kd.R_mono (Kd.R_far (p := ⟨gb101, 0, none⟩) (Kd.R_types HO142.out BK101.out (by decide)) (fun _ hk => hk.2) (.slice Ao44 t135.length co44)) (fun _ hk => hk.1.2), zB⟩
end Go.Proofs.Ytgmciimgmnnhmaa.P
end
section
namespace Go.Proofs.Ytgmciimgmnnhmaa.P
open Go.RowKit Go.Proofs.YtgmciimgmnnhmaaW.PrintWords Go.Proofs.YtgmciimgmnnhmaaW.PrintLast Go.Proofs.YtgmciimgmnnhmaaW.PrintMore
attribute [local go_sem] max2_int min2_int max_two min_two max_three min_three max_four min_four   -- for this text's walks alone
set_option linter.unusedVariables false
set_option linter.unusedSimpArgs false
def spec_DrawTowerOf.f (k : Nat) (l0 : List Int) : Option (List Int × List Int) := (spec_l06Given.f k l0).bind fun bt102 => (some (bt102.1, bt102.2))
theorem spec_DrawTowerOf.mono : ∀ a0 k, LeO (spec_DrawTowerOf.f k a0) (spec_DrawTowerOf.f (k + 1) a0) := by
  intro a0 k
  unfold spec_DrawTowerOf.f
  repeat' first | (with_reducible exact spec_l06Given.mono _ _) | (with_reducible exact LeO.refl _) | (with_reducible exact LeO.none _) | (with_reducible refine LeO.ite ?_ ?_) | (with_reducible refine LeO.bind ?_ (fun _ => ?_)) | exact spec_l06Given.mono _ _ | exact LeO.none _ | refine LeO.ite ?_ ?_ | refine LeO.bind ?_ (fun _ => ?_)
set_option maxHeartbeats 8000000 in
set_option maxRecDepth 100000 in
theorem spec_DrawTowerOf.calls (k : Nat) (A0 : Option Addr) (c0 : Nat) (l0 : List Int) (r1 : List Int) (r2 : List Int) (w : World) (hr0 : Kd.C (Kd.int .u8) w A0 l0.length l0) (hc0 : l0.length ≤ c0) (h : spec_DrawTowerOf.f k l0 = some (r1, r2)) :
    Calls Try.prog 5 #[.slice A0 l0.length c0] w fun e w' => ∃ v0_ v1_ : Value, e = .returned (.tuple #[.agg #[v0_], v1_]) ∧ Kd.R (Kd.int .i64) 2 w' w.heap.size (fun k_ => some k_ ≠ (v1_ : Value).ownBlock) v0_ r1 ∧ Kd.R (Kd.int .i64) 2 w' w.heap.size (fun k_ => some k_ ≠ (v0_ : Value).ownBlock) v1_ r2 ∧ Below w.heap.size w w' := by
 have hu26 := Try.underlying26
 have HR0 := Aside0.mk hr0
 have HC0 := Aside0.mk hc0
 clear hr0 hc0
 have HB := Aside0.mk (Below.refl w.heap.size w)
 have H : ((spec_l06Given.f k l0).bind fun bt102 => (some (bt102.1, bt102.2))) = some (r1, r2) := h
 clear h
 replace H := Option.bind_eq_some_iff.mp H
 obtain ⟨⟨t102, t105⟩, A20, H⟩ := H
 replace H : (some (t102, t105)) = some (r1, r2) := H
 have A2 := Aside0.mk A20
 clear A20
 simp only [Option.some.injEq, Prod.mk.injEq] at H
 obtain ⟨rfl, rfl⟩ := H
 go_enter Try.func5, Try.ntmps5
 go_wp2_with (first | ((with_reducible refine gate_dst (N := 2) rfl ?_); refine box_event zr (N := 2) zr (cs := #[.slice none 0 0]) (t := 26) zg ?_; intro gb101 hg w3 hbox hb; have n_ := y4 (below_step (zB) hb) (hbox) ((zS hg : w.heap.size ≤ gb101)) ((zS hg : w.heap.size ≤ gb101)); clear HB; obtain ⟨HB, BK101, GW101, GE101⟩ := n_; clear hb hbox hg) | ((with_reducible refine gate_callee (f := 25) rfl ?_); refine goesL_ (some 5) rfl rfl Try.func25 zk rfl #[.slice A0 l0.length c0] rfl zA ?_; (with_reducible refine (spec_l06Given.calls k _ _ l0 t102 t105 _ ?side1 ?side2 A2.out).mono ?_); (case side1 => exact zC (Kd.C_below HR0.out HB.out)); (case side2 => exact HC0.out); rintro e w4 ⟨v103, v106, rfl, ho0, ho1, hb⟩; refine ⟨_, rfl, ?_⟩; have n_ := y4 (Kd.R_lower ho0 (below_size (zB))) (Kd.R_lower ho1 (below_size (zB))) (zb BK101.out hb) (below_step (zB) hb); clear BK101 HB; obtain ⟨HO104, HO107, BK101, HB⟩ := n_; (try clear hb); (try clear hb2); (try clear hk); (try clear hi); (try clear ho0); (try clear ho1); obtain ⟨Ao5, co5, eo5⟩ := Kd.R_slice HO104.out; subst eo5; have hcz6_0 := zc BK101.out; have hfz6_0 := blk_frozen BK101.out 0))
 refine bodyPost_ret (results_ct rfl _ _ gb101 26 #[.slice Ao5 t102.length co5] (0, 0) _ rfl (by refine zG ?_; refine blk_put (cs := #[.slice none 0 0]) ?_ 0 _ rfl; refine zG ?_; exact BK101.out) Try.underlying26 rfl zk) rfl ?_
 exact ⟨_, _, zE, by refine zR ?_; exact Kd.R_mono (Kd.R_far (p := ⟨gb101, 0, none⟩) (Kd.R_types HO104.out BK101.out (by decide)) (fun _ hk => hk.2) (.slice Ao5 t102.length co5)) (fun _ hk => hk.1), by refine zR ?_; exact Kd.R_mono (Kd.R_far (p := ⟨gb101, 0, none⟩) (Kd.R_types HO107.out BK101.out (by decide)) (fun _ hk => hk.2) (.slice Ao5 t102.length co5)) (fun _ hk => hk.1), zB⟩
end Go.Proofs.Ytgmciimgmnnhmaa.P
end
section
namespace Go.Proofs.Ytgmciimgmnnhmaa.P
open Go.RowKit Go.Proofs.YtgmciimgmnnhmaaW.PrintWords Go.Proofs.YtgmciimgmnnhmaaW.PrintLast Go.Proofs.YtgmciimgmnnhmaaW.PrintMore
attribute [local go_sem] max2_int min2_int max_two min_two max_three min_three max_four min_four   -- for this text's walks alone
set_option linter.unusedVariables false
set_option linter.unusedSimpArgs false
mutual
def impl_waits.l0 : Nat → List Int → Int → List Int → List Int → Int → Int → Option (List Int)
  | 0, _, _, _, _, _, _ => none
  | k + 1, x0, x1, x5, x11, x12, x13 => if x13 < x12 then (if 0 ≤ x13 then (if x13 < (x11.length : Int) then (if (rd x11 x13) = x1 then (if x5.length < 17592186044416 then (impl_waits.l0 k x0 x1 (x5 ++ [x13]) x11 x12 (wrap64 (x13 + 1))) else (none)) else (impl_waits.l0 k x0 x1 x5 x11 x12 (wrap64 (x13 + 1)))) else (none)) else (none)) else (impl_waits.l1 k x0 x5 ([] : List Int) x5 (x5.length : Int) 0)
def impl_waits.l1 : Nat → List Int → List Int → List Int → List Int → Int → Int → Option (List Int)
  | 0, _, _, _, _, _, _ => none
  | k + 1, x0, x5, x6, x26, x27, x28 => if x28 < x27 then (if 0 ≤ x28 then (if x28 < (x26.length : Int) then (if (wrap64 (x28 + 1)) < (x5.length : Int) then (if 0 ≤ (wrap64 (x28 + 1)) then (if x6.length < 17592186044416 then (impl_waits.l1 k x0 x5 (x6 ++ [wrap64 ((rd x5 (wrap64 (x28 + 1))) - (rd x26 x28))]) x26 x27 (wrap64 (x28 + 1))) else (none)) else (none)) else (if 0 < (x5.length : Int) then ((impl_length_int64.f x0).bind fun t111 => (if x6.length < 17592186044416 then (impl_waits.l1 k x0 x5 (x6 ++ [wrap64 ((wrap64 ((rd x5 0) + t111)) - (rd x26 x28))]) x26 x27 (wrap64 (x28 + 1))) else (none))) else (none))) else (none)) else (none)) else (some x6)
end
def impl_waits.f (k : Nat) (l0 : List Int) (a1 : Int) : Option (List Int) := impl_waits.l0 k l0 a1 ([] : List Int) l0 (l0.length : Int) 0
theorem impl_waits.mono_l : ∀ k, (∀ y0 y1 y2 y3 y4 y5, LeO (impl_waits.l0 k y0 y1 y2 y3 y4 y5) (impl_waits.l0 (k + 1) y0 y1 y2 y3 y4 y5)) ∧ (∀ y0 y1 y2 y3 y4 y5, LeO (impl_waits.l1 k y0 y1 y2 y3 y4 y5) (impl_waits.l1 (k + 1) y0 y1 y2 y3 y4 y5))
  | 0 => ⟨fun _ _ _ _ _ _ r h => by simp [impl_waits.l0] at h, fun _ _ _ _ _ _ r h => by simp [impl_waits.l1] at h⟩
  | k + 1 => by
    obtain ⟨ih0, ih1⟩ := impl_waits.mono_l k
    refine ⟨?_, ?_⟩ <;> intros <;> (first | unfold impl_waits.l0 | unfold impl_waits.l1) <;> repeat' first | (with_reducible exact ih0 _ _ _ _ _ _) | (with_reducible exact ih1 _ _ _ _ _ _) | (with_reducible exact LeO.refl _) | (with_reducible exact LeO.none _) | (with_reducible refine LeO.ite ?_ ?_) | (with_reducible refine LeO.bind ?_ (fun _ => ?_)) | exact ih0 _ _ _ _ _ _ | exact ih1 _ _ _ _ _ _ | exact LeO.none _ | refine LeO.ite ?_ ?_ | refine LeO.bind ?_ (fun _ => ?_)
theorem impl_waits.mono : ∀ a0 a1 k, LeO (impl_waits.f k a0 a1) (impl_waits.f (k + 1) a0 a1) := by
  intro a0 a1 k
  obtain ⟨ih0, ih1⟩ := impl_waits.mono_l k
  unfold impl_waits.f
  repeat' first | (with_reducible exact ih0 _ _ _ _ _ _) | (with_reducible exact ih1 _ _ _ _ _ _) | (with_reducible exact LeO.refl _) | (with_reducible exact LeO.none _) | (with_reducible refine LeO.ite ?_ ?_) | (with_reducible refine LeO.bind ?_ (fun _ => ?_)) | exact ih0 _ _ _ _ _ _ | exact ih1 _ _ _ _ _ _ | exact LeO.none _ | refine LeO.ite ?_ ?_ | refine LeO.bind ?_ (fun _ => ?_)
def impl_waits.T13 : Bool × List (List Nat × List Nat) := (true, [([], []), ([], []), ([1], [1]), ([2], [2]), ([], []), ([4], [4]), ([3, 5], [3, 5]), ([], []), ([6, 7], [6, 7]), ([8], [8]), ([0, 9, 5], [0, 9]), ([10, 10, 0, 1, 2, 3, 4, 5, 6, 7, 8, 9, 10], [0, 10])])
def impl_waits.B13 : List Nat := [0, 0, 2, 6, 0, 16, 62, 0, 254, 510, 1023, 2047]
theorem impl_waits.tab13 : rtab .any (opsOf Try.f29 13) = impl_waits.T13 := by kernel_rfl
theorem impl_waits.bits13 : waitsOk impl_waits.T13.2 impl_waits.B13 = true := by kernel_rfl
set_option maxHeartbeats 8000000 in
set_option maxRecDepth 100000 in
theorem impl_waits.calls (k : Nat) (A0 : Option Addr) (c0 : Nat) (l0 : List Int) (a1 : Int) (r : List Int) (w : World) (hr0 : Kd.C (Kd.int .i64) w A0 l0.length l0) (hc0 : l0.length ≤ c0) (h : impl_waits.f k l0 a1 = some r) :
    Calls Try.prog 29 #[.slice A0 l0.length c0, .int .i64 a1] w fun e w' => ∃ v0_ : Value, e = .returned (v0_) ∧ Kd.R (Kd.int .i64) 2 w' w.heap.size (fun _ => True) v0_ r ∧ Below w.heap.size w w' := by
 have HR0 := Aside0.mk hr0
 have HC0 := Aside0.mk hc0
 clear hr0 hc0
 have HB := Aside0.mk (Below.refl w.heap.size w)
 have H : (impl_waits.l0 k l0 a1 ([] : List Int) l0 (l0.length : Int) 0) = some r := h
 clear h
 have H' := Aside0.mk H
 clear H
 go_enter Try.func29, Try.ntmps29
 go_wp2
 go_loopg [5, 13] k (fun kq v5 v13 w' => ∃ (x5_1 : List Int) (x13_1 : Int), v13 = .int .i64 x13_1 ∧ Aside0 (impl_waits.l0 kq l0 a1 x5_1 l0 (l0.length : Int) x13_1 = some r) ∧ Aside0 (kq ≤ k) ∧ Aside0 (Kd.R (Kd.int .i64) 2 w' w.heap.size (fun _ => True) v5 x5_1) ∧ Aside0 (Below w.heap.size w w'))
 case atStart => exact ⟨(([] : List Int)), (0), zF, H', ⟨Nat.le_refl _⟩, ⟨zN⟩, ⟨zB⟩⟩
 clear H'
 obtain ⟨x5_1, x13_1, rfl, HA, HK1, HO_5, HB⟩ := hrel
 cases gk with
 | zero => exact absurd HA.out (by simp [impl_waits.l0])
 | succ k1 =>
   have H := HA.out
   clear HA
   simp only [impl_waits.l0] at H
   by_cases c3 : x13_1 < (l0.length : Int)
   · rw [if_pos c3] at H
     have c3b0 : decide (x13_1 < (l0.length : Int)) = true := decide_eq_true c3
     clear c3
     by_cases c4 : 0 ≤ x13_1
     · rw [if_pos c4] at H
       have c4b0 : decide (0 ≤ x13_1) = true := decide_eq_true c4
       clear c4
       by_cases c5 : x13_1 < (l0.length : Int)
       · rw [if_pos c5] at H
         have c5b0 : decide (x13_1 < (l0.length : Int)) = true := decide_eq_true c5
         clear c5
         by_cases c6 : (rd l0 x13_1) = a1
         · rw [if_pos c6] at H
           have c6b0 : ((rd l0 x13_1) == a1) = true := beq_iff_eq.mpr c6
           have c6b1 : ((rd l0 x13_1) != a1) = false := bne_eq_false_iff_eq.mpr c6
           clear c6
           by_cases c7 : x5_1.length < 17592186044416
           · rw [if_pos c7] at H
             have LMc7 := Aside0.mk c7
             clear c7
             obtain ⟨y102, hy102⟩ : ∃ y_ : List Int, y_ = (x5_1 ++ [x13_1]) := ⟨_, rfl⟩
             replace H : (impl_waits.l0 k1 l0 a1 y102 l0 (l0.length : Int) (wrap64 (x13_1 + 1))) = some r := zH hy102
             have Ny102 := Aside0.mk hy102
             clear hy102
             have H' := Aside0.mk H
             clear H
             have p101 : 0 ≤ (x13_1 : Int) := zD
             have q101 : x13_1 < (l0.length : Int) := zD
             obtain ⟨ad101, e101, hx101_0⟩ := Kd.at_int HR0.out x13_1 p101 q101
             cases e101
             replace hx101_0 := (HB.out.cell (World.block_lt_of_cell? w _ hx101_0)).trans hx101_0
             replace p101 := eq_true p101
             replace q101 := eq_true q101
             go_wp2_with (first | ((with_reducible refine gate_builtin (b := .append) (xs := #[.tmp 21, .tmp 23]) rfl ?_); at_builtin; refine Kd.R_append (Kd.int .i64) (w0 := w) w.heap.size rfl (.tmp 21) (.tmp 23) 24 2 (.int .i64 0) 8 rfl Try.underlying24 info2 rfl (by decide) (by omega) u5 x5_1 x13_1 [.int .i64 x13_1] (fun _ => True) (fun _ => False) rfl rfl ?aP (fun _ hk => hk.elim) ?aF ?aO ?aB ?aS ?aL ?_; (case aP => exact rfl); (case aB => exact (zB)); (case aF => exact (fun _ _ => trivial)); (case aO => exact (zR HO_5.out)); (case aS => exact (below_size (zB))); (case aL => have := LMc7.out; omega); intro v103 w8 ho hb hg hat; rw [← Ny102.out] at ho; have n_ := y2 (hb) (ho); clear HB HO_5; obtain ⟨HB, HO104⟩ := n_; clear ho hb hg hat))
             go_roundg k1
             case measure => have := HK1.out; omega
             case rel => exact ⟨(y102), (wrap64 (x13_1 + 1)), zF, H', ⟨by have := HK1.out; omega⟩, ⟨zR HO104.out⟩, ⟨zB⟩⟩
           · rw [if_neg c7] at H
             exact absurd H (by simp)
         · rw [if_neg c6] at H
           have c6b0 : ((rd l0 x13_1) == a1) = false := beq_eq_false_iff_ne.mpr c6
           have c6b1 : ((rd l0 x13_1) != a1) = true := bne_iff_ne.mpr c6
           have H' := Aside0.mk H
           clear H
           have p101 : 0 ≤ (x13_1 : Int) := zD
           have q101 : x13_1 < (l0.length : Int) := zD
           obtain ⟨ad101, e101, hx101_0⟩ := Kd.at_int HR0.out x13_1 p101 q101
           cases e101
           replace hx101_0 := (HB.out.cell (World.block_lt_of_cell? w _ hx101_0)).trans hx101_0
           replace p101 := eq_true p101
           replace q101 := eq_true q101
           go_wp2
           go_roundg k1
           case measure => have := HK1.out; omega
           case rel => exact ⟨(x5_1), (wrap64 (x13_1 + 1)), zF, H', ⟨by have := HK1.out; omega⟩, ⟨zR HO_5.out⟩, ⟨zB⟩⟩
       · rw [if_neg c5] at H
         exact absurd H (by simp)
     · rw [if_neg c4] at H
       exact absurd H (by simp)
   · rw [if_neg c3] at H
     have c3b0 : decide (x13_1 < (l0.length : Int)) = false := decide_eq_false c3
     clear c3
     have H' := Aside0.mk H
     clear H
     obtain ⟨Ao9, co9, eo9⟩ := Kd.R_slice HO_5.out
     subst eo9
     go_wp2
     go_loopg [6, 28] k1 (fun kq v6 v28 w' => ∃ (x6_2 : List Int) (x28_2 : Int), v28 = .int .i64 x28_2 ∧ Aside0 (impl_waits.l1 kq l0 x5_1 x6_2 x5_1 (x5_1.length : Int) x28_2 = some r) ∧ Aside0 (kq ≤ k1) ∧ Aside0 (Kd.R (Kd.int .i64) 2 w' w.heap.size (fun k_ => some k_ ≠ (v6 : Value).ownBlock) (.slice Ao9 x5_1.length co9) x5_1) ∧ Aside0 (Kd.R (Kd.int .i64) 2 w' w.heap.size (fun k_ => some k_ ≠ ((.slice Ao9 x5_1.length co9) : Value).ownBlock ∧ some k_ ≠ ((.slice Ao9 x5_1.length co9) : Value).ownBlock) v6 x6_2) ∧ Aside0 (Kd.R (Kd.int .i64) 2 w' w.heap.size (fun k_ => some k_ ≠ (v6 : Value).ownBlock) (.slice Ao9 x5_1.length co9) x5_1) ∧ Aside0 (Below w.heap.size w w'))
     case atStart => exact ⟨(([] : List Int)), (0), zF, H', ⟨Nat.le_refl _⟩, ⟨by refine zR ?_; exact Kd.R_mono HO_5.out (fun _ hk => (by simp [Value.ownBlock]))⟩, ⟨zN⟩, ⟨by refine zR ?_; exact Kd.R_mono HO_5.out (fun _ hk => (by simp [Value.ownBlock]))⟩, ⟨zB⟩⟩
     case round =>
       clear H'
       try clear c3
       try clear c3b0
       obtain ⟨x6_2, x28_2, rfl, HA, HK2, HO_5, HO_6, HO_26, HB⟩ := hrel
       cases gk with
       | zero => exact absurd HA.out (by simp [impl_waits.l1])
       | succ k2 =>
         have H := HA.out
         clear HA
         simp only [impl_waits.l1] at H
         by_cases c10 : x28_2 < (x5_1.length : Int)
         · rw [if_pos c10] at H
           have c10b0 : decide (x28_2 < (x5_1.length : Int)) = true := decide_eq_true c10
           clear c10
           by_cases c11 : 0 ≤ x28_2
           · rw [if_pos c11] at H
             have c11b0 : decide (0 ≤ x28_2) = true := decide_eq_true c11
             clear c11
             by_cases c12 : x28_2 < (x5_1.length : Int)
             · rw [if_pos c12] at H
               have c12b0 : decide (x28_2 < (x5_1.length : Int)) = true := decide_eq_true c12
               clear c12
               by_cases c13 : (wrap64 (x28_2 + 1)) < (x5_1.length : Int)
               · rw [if_pos c13] at H
                 have c13b0 : decide ((wrap64 (x28_2 + 1)) < (x5_1.length : Int)) = true := decide_eq_true c13
                 clear c13
                 obtain ⟨ji14, hji14⟩ : ∃ j_ : Int, (wrap64 (x28_2 + 1)) = j_ := ⟨_, rfl⟩
                 replace H : (if 0 ≤ (ji14) then (if x6_2.length < 17592186044416 then (impl_waits.l1 k2 l0 x5_1 (x6_2 ++ [wrap64 ((rd x5_1 (ji14)) - (rd x5_1 x28_2))]) x5_1 (x5_1.length : Int) ji14) else (none)) else (none)) = some r := by first | (rw [hji14] at H; exact H) | (simp only [hji14] at H ⊢; exact H)
                 (try rw [hji14] at c13b0)
                 have hji14w : (IntKind.i64.wrap (x28_2 + 1)) = ji14 := (i64_w _).trans hji14
                 by_cases c15 : 0 ≤ (ji14)
                 · rw [if_pos c15] at H
                   have c15b0 : decide (0 ≤ (ji14)) = true := decide_eq_true c15
                   clear c15
                   by_cases c16 : x6_2.length < 17592186044416
                   · rw [if_pos c16] at H
                     have LMc16 := Aside0.mk c16
                     clear c16
                     obtain ⟨y107, hy107⟩ : ∃ y_ : List Int, y_ = (x6_2 ++ [wrap64 ((rd x5_1 (ji14)) - (rd x5_1 x28_2))]) := ⟨_, rfl⟩
                     replace H : (impl_waits.l1 k2 l0 x5_1 y107 x5_1 (x5_1.length : Int) ji14) = some r := zH hy107
                     have Ny107 := Aside0.mk hy107
                     clear hy107
                     have H' := Aside0.mk H
                     clear H
                     have p105 : 0 ≤ (x28_2 : Int) := zD
                     have q105 : x28_2 < (x5_1.length : Int) := zD
                     obtain ⟨ad105, e105, hx105_0⟩ := Kd.at_int (Kd.R_reads' HO_26.out).2.2 x28_2 p105 q105
                     cases e105
                     replace p105 := eq_true p105
                     replace q105 := eq_true q105
                     have p106 : 0 ≤ ((ji14) : Int) := zD
                     have q106 : (ji14) < (x5_1.length : Int) := zD
                     obtain ⟨ad106, e106, hx106_0⟩ := Kd.at_int (Kd.R_reads' HO_5.out).2.2 (ji14) p106 q106
                     obtain rfl : ad105 = ad106 := (by injection e106)
                     replace p106 := eq_true p106
                     replace q106 := eq_true q106
                     go_wp2_with (first | ((with_reducible refine gate_builtin (b := .append) (xs := #[.tmp 38, .tmp 46]) rfl ?_); at_builtin; refine Kd.R_append (Kd.int .i64) (w0 := w) w.heap.size rfl (.tmp 38) (.tmp 46) 24 2 (.int .i64 0) 8 rfl Try.underlying24 info2 rfl (by decide) (by omega) u6 x6_2 (wrap64 ((rd x5_1 (ji14)) - (rd x5_1 x28_2))) [.int .i64 (wrap64 ((rd x5_1 (ji14)) - (rd x5_1 x28_2)))] (fun k_ => some k_ ≠ (.slice (some ad105) x5_1.length co9 : Value).ownBlock ∧ some k_ ≠ (.slice (some ad105) x5_1.length co9 : Value).ownBlock) (fun _ => False) rfl rfl ?aP (fun _ hk => hk.elim) ?aF ?aO ?aB ?aS ?aL ?_; (case aP => exact rfl); (case aB => exact (zB)); (case aF => exact (fun k_ hk => ⟨Kd.fresh' (Kd.R_lt (zR HO_5.out)) k_ hk, Kd.fresh' (Kd.R_lt (zR HO_26.out)) k_ hk⟩)); (case aO => exact (zR HO_6.out)); (case aS => exact (below_size (zB))); (case aL => have := LMc16.out; omega); intro v108 w17 ho hb hg hat; rw [← Ny107.out] at ho; have n_ := y4 (Kd.R_after (ok := (fun _ => True)) (by refine zR ?_; exact Kd.R_mono HO_5.out (fun _ hk => ⟨trivial, hk⟩)) hg hat) (Kd.R_after (ok := (fun _ => True)) (by refine zR ?_; exact Kd.R_mono HO_26.out (fun _ hk => ⟨trivial, hk⟩)) hg hat) (hb) (ho); clear HO_5 HO_26 HB HO_6; obtain ⟨HO_5, HO_26, HB, HO109⟩ := n_; clear ho hb hg hat))
                     go_roundg k2
                     case measure => have := HK1.out; have := HK2.out; omega
                     case rel => exact ⟨(y107), (ji14), (by first | rfl | (simp; done) | (simp only [← hji14] <;> (first | rfl | simp)) | (simp [*]; done)), H', ⟨by have := HK1.out; have := HK2.out; omega⟩, ⟨by refine zR ?_; exact Kd.R_mono HO_5.out (fun _ hk => hk.2)⟩, ⟨zR HO109.out⟩, ⟨by refine zR ?_; exact Kd.R_mono HO_26.out (fun _ hk => hk.2)⟩, ⟨zB⟩⟩
                   · rw [if_neg c16] at H
                     exact absurd H (by simp)
                 · rw [if_neg c15] at H
                   exact absurd H (by simp)
               · rw [if_neg c13] at H
                 have c13b0 : decide ((wrap64 (x28_2 + 1)) < (x5_1.length : Int)) = false := decide_eq_false c13
                 clear c13
                 by_cases c18 : 0 < (x5_1.length : Int)
                 · rw [if_pos c18] at H
                   have c18b0 : decide (0 < (x5_1.length : Int)) = true := decide_eq_true c18
                   have c18b1 : decide (0 < x5_1.length) = true := decide_eq_true (by omega)
                   clear c18
                   replace H := Option.bind_eq_some_iff.mp H
                   obtain ⟨t111, A190, H⟩ := H
                   replace H : (if x6_2.length < 17592186044416 then (impl_waits.l1 k2 l0 x5_1 (x6_2 ++ [wrap64 ((wrap64 ((rd x5_1 0) + t111)) - (rd x5_1 x28_2))]) x5_1 (x5_1.length : Int) (wrap64 (x28_2 + 1))) else (none)) = some r := H
                   have A19 := Aside0.mk A190
                   clear A190
                   by_cases c20 : x6_2.length < 17592186044416
                   · rw [if_pos c20] at H
                     have LMc20 := Aside0.mk c20
                     clear c20
                     obtain ⟨y112, hy112⟩ : ∃ y_ : List Int, y_ = (x6_2 ++ [wrap64 ((wrap64 ((rd x5_1 0) + t111)) - (rd x5_1 x28_2))]) := ⟨_, rfl⟩
                     replace H : (impl_waits.l1 k2 l0 x5_1 y112 x5_1 (x5_1.length : Int) (wrap64 (x28_2 + 1))) = some r := zH hy112
                     have Ny112 := Aside0.mk hy112
                     clear hy112
                     have H' := Aside0.mk H
                     clear H
                     have p105 : 0 ≤ (x28_2 : Int) := zD
                     have q105 : x28_2 < (x5_1.length : Int) := zD
                     obtain ⟨ad105, e105, hx105_0⟩ := Kd.at_int (Kd.R_reads' HO_26.out).2.2 x28_2 p105 q105
                     cases e105
                     replace p105 := eq_true p105
                     replace q105 := eq_true q105
                     try go_wp2
                     have n_ := y4 (Kd.R_drew HO_5.out) (Kd.R_drew HO_6.out) (Kd.R_drew HO_26.out) (below_drew1 HB.out)
                     clear HO_5 HO_6 HO_26 HB
                     obtain ⟨HO_5, HO_6, HO_26, HB⟩ := n_
                     have p110 : 0 ≤ (0 : Int) := (by omega)
                     have q110 : 0 < (x5_1.length : Int) := zD
                     obtain ⟨ad110, e110, hx110_0⟩ := Kd.at_int (Kd.R_reads' HO_5.out).2.2 0 p110 q110
                     obtain rfl : ad105 = ad110 := (by injection e110)
                     have qi110 : (0 < x5_1.length) = True := eq_true (by omega)
                     (try rw [show ((0 : Int)).toNat = 0 from rfl] at hx110_0)
                     (try rw [Addr.add_zero'] at hx110_0)
                     replace p110 := eq_true p110
                     replace q110 := eq_true q110
                     refine start_ (n := 12) (S := fun w' => w'.cell? ad105 = some (.int .i64 (rd x5_1 0))) (ds := [9, 10]) #[false,false,false,false,false,false,false,false,false,false,false,false] zk rfl rfl (hx110_0) (fun hHeld => ?_); refine with_tabW impl_waits.tab13 impl_waits.bits13 (fun HT_ HW_ => ?_)
                     generalize wr.drew = w21 at HO_5 HO_6 HO_26 HB hx110_0 hHeld ⊢
                     refine pure_ (i := 0) (N := some 48) (v := ?_) (a' := ?_) #[true,false,false,false,false,false,false,false,false,false,false,false] rfl rfl (any_of HT_.out zk) (fun _ _ _ h => h) (Or.inl ⟨by rfl, ?_⟩) ?_ ?_
                     rotate_left; exact zp; rotate_left; exact zq
                     refine pure_ (i := 1) (N := some 49) (v := ?_) (a' := ?_) #[true,true,false,false,false,false,false,false,false,false,false,false] rfl rfl (any_of HT_.out zk) (fun _ _ _ h => h) (Or.inl ⟨by rfl, ?_⟩) ?_ ?_
                     rotate_left; exact zp; rotate_left; exact zq
                     refine pure_ (i := 2) (N := some 50) (v := ?_) (a' := ?_) #[true,true,true,false,false,false,false,false,false,false,false,false] rfl rfl (any_of HT_.out zk) (fun _ _ _ h => h) (Or.inl ⟨by rfl, ?_⟩) ?_ ?_
                     rotate_left; exact zp; rotate_left; exact zq
                     refine pure_ (i := 4) (N := some 52) (v := ?_) (a' := ?_) #[true,true,true,false,true,false,false,false,false,false,false,false] rfl rfl (any_of HT_.out zk) (fun _ _ _ h => h) (Or.inl ⟨by rfl, ?_⟩) ?_ ?_
                     rotate_left; exact zp; rotate_left; exact zq
                     refine pure_ (i := 7) (N := some 55) (v := ?_) (a' := ?_) #[true,true,true,false,true,false,false,true,false,false,false,false] rfl rfl (any_of HT_.out zk) (fun _ _ _ h => h) (Or.inl ⟨by rfl, ?_⟩) ?_ ?_
                     rotate_left; exact zp; rotate_left; exact zq
                     refine take_ (i := 3) (N := some 51) (v := ?_) (a' := ?_) #[true,true,true,true,true,false,false,true,false,false,false,false] rfl rfl (take_ofW HT_.out HW_.out zk) (fun _ _ _ h => h) (Or.inl ⟨by rfl, ?_⟩) hHeld ?_ ?_
                     rotate_left
                     · intro w' s0
                       go_simp
                       with_reducible rfl
                     rotate_left
                     · simp only [Act.put, List.setIfInBounds_toArray, List.set_cons_zero, List.set_cons_succ, i64_w, i32_w]
                       rfl
                     refine one_ (i := 5) (N := some 53) #[true,true,true,true,true,true,false,true,false,false,false,false] rfl rfl (one_of HT_.out zk) (by decide) (fun K hK => ?_)
                     refine goes_ Try.func39 zk rfl #[.slice A0 l0.length c0] (by rfl) rfl rfl zA ?_
                     with_reducible refine (impl_length_int64.calls _ _ l0 t111 _ ?side1 ?side2 A19.out).mono ?_
                     (case side1 => exact zC (Kd.C_below HR0.out HB.out))
                     (case side2 => exact HC0.out)
                     rintro e w' ⟨rfl, ⟨nd, rfl⟩⟩
                     refine ⟨_, rfl, ?_⟩
                     refine hK.out _ _ (hHeld) (fun hHeld => ?_)
                     clear hK K
                     refine norm_ (a' := ?_) ?_ ?_
                     rotate_left
                     · show Act.put _ (some 53) _ = _
                       simp only [Act.put, List.setIfInBounds_toArray, List.set_cons_zero, List.set_cons_succ, i64_w, i32_w]
                       rfl
                     refine pure_ (i := 6) (N := some 54) (v := ?_) (a' := ?_) #[true,true,true,true,true,true,true,true,false,false,false,false] rfl rfl (any_of HT_.out zk) (fun _ _ _ h => h) (Or.inl ⟨by rfl, ?_⟩) ?_ ?_
                     rotate_left; exact zp; rotate_left; exact zq
                     refine pure_ (i := 8) (N := some 56) (v := ?_) (a' := ?_) #[true,true,true,true,true,true,true,true,true,false,false,false] rfl rfl (any_of HT_.out zk) (fun _ _ _ h => h) (Or.inl ⟨by rfl, ?_⟩) ?_ ?_
                     rotate_left; exact zp; rotate_left; exact zq
                     refine last_ (i := 9) (N := some 57) #[true,true,true,true,true,true,true,true,true,true,false,false] rfl rfl (one_of HT_.out zk) (by decide) (fun K hK => ?_)
                     refine value_ (w1 := ?_) (v := ?_) (by rfl) rfl ?_ ?_
                     rotate_left 2
                     · go_simp
                       constructor
                       · rfl
                       · rfl
                     refine hK.out _ _ ?_
                     clear hK K
                     refine norm_ (a' := ?_) ?_ ?_
                     rotate_left
                     · show Act.put _ (some 57) _ = _
                       simp only [Act.put, List.setIfInBounds_toArray, List.set_cons_zero, List.set_cons_succ, i64_w, i32_w]
                       rfl
                     refine last_ (i := 10) (N := some 58) #[true,true,true,true,true,true,true,true,true,true,true,false] rfl rfl (one_of HT_.out zk) (by decide) (fun K hK => ?_)
                     refine Kd.R_append_step (Kd.int .i64) (w0 := w) w.heap.size (by rfl) (.tmp 48) (.tmp 57) 24 2 (.int .i64 0) 8 rfl Try.underlying24 info2 rfl (by decide) (by omega) u6 x6_2 (wrap64 ((wrap64 ((rd x5_1 0) + t111)) - (rd x5_1 x28_2))) [.int .i64 (wrap64 ((wrap64 ((rd x5_1 0) + t111)) - (rd x5_1 x28_2)))] (fun k_ => some k_ ≠ (.slice (some ad105) x5_1.length co9 : Value).ownBlock ∧ some k_ ≠ (.slice (some ad105) x5_1.length co9 : Value).ownBlock) (fun _ => False) rfl rfl ?aP (fun _ hk => hk.elim) ?aF ?aO ?aB ?aS ?aL ?_
                     (case aP => exact rfl)
                     (case aB => exact (zB))
                     (case aF => exact (fun k_ hk => ⟨Kd.fresh' (Kd.R_lt (zR HO_5.out)) k_ hk, Kd.fresh' (Kd.R_lt (zR HO_26.out)) k_ hk⟩))
                     (case aO => exact (zR HO_6.out))
                     (case aS => exact (below_size (zB)))
                     (case aL => have := LMc20.out; omega)
                     intro v113 w22 ho hb hg hat
                     rw [← Ny112.out] at ho
                     have n_ := y4 (Kd.R_after (ok := (fun _ => True)) (by refine zR ?_; exact Kd.R_mono HO_5.out (fun _ hk => ⟨trivial, hk⟩)) hg hat) (Kd.R_after (ok := (fun _ => True)) (by refine zR ?_; exact Kd.R_mono HO_26.out (fun _ hk => ⟨trivial, hk⟩)) hg hat) (hb) (ho)
                     clear HO_5 HO_26 HB HO_6
                     obtain ⟨HO_5, HO_26, HB, HO114⟩ := n_
                     clear ho hb hg hat
                     refine hK.out _ _ ?_
                     clear hK K
                     refine norm_ (a' := ?_) ?_ ?_
                     rotate_left
                     · show Act.put _ (some 58) _ = _
                       simp only [Act.put, List.setIfInBounds_toArray, List.set_cons_zero, List.set_cons_succ, i64_w, i32_w]
                       rfl
                     refine pure_ (i := 11) (N := some 6) (v := ?_) (a' := ?_) #[true,true,true,true,true,true,true,true,true,true,true,true] rfl rfl (any_of HT_.out zk) (fun _ _ _ h => h) (Or.inl ⟨by rfl, ?_⟩) ?_ ?_
                     rotate_left; exact zp; rotate_left; exact zq
                     refine done_ (done_of HT_.out zk) ?_
                     try go_wp2
                     go_roundg k2
                     case measure => have := HK1.out; have := HK2.out; omega
                     case rel => exact ⟨(y112), (wrap64 (x28_2 + 1)), zF, H', ⟨by have := HK1.out; have := HK2.out; omega⟩, ⟨by refine zR ?_; exact Kd.R_mono HO_5.out (fun _ hk => hk.2)⟩, ⟨zR HO114.out⟩, ⟨by refine zR ?_; exact Kd.R_mono HO_26.out (fun _ hk => hk.2)⟩, ⟨zB⟩⟩
                   · rw [if_neg c20] at H
                     exact absurd H (by simp)
                 · rw [if_neg c18] at H
                   exact absurd H (by simp)
             · rw [if_neg c12] at H
               exact absurd H (by simp)
           · rw [if_neg c11] at H
             exact absurd H (by simp)
         · rw [if_neg c10] at H
           have c10b0 : decide (x28_2 < (x5_1.length : Int)) = false := decide_eq_false c10
           clear c10
           obtain rfl := Option.some.inj H
           go_wp2
           go_ret
           exact ⟨_, zE, by refine zR ?_; exact Kd.R_mono HO_6.out (fun _ hk => trivial), zB⟩
end Go.Proofs.Ytgmciimgmnnhmaa.P
end
section
namespace Go.Proofs.Ytgmciimgmnnhmaa.P
open Go.RowKit Go.Proofs.YtgmciimgmnnhmaaW.PrintWords Go.Proofs.YtgmciimgmnnhmaaW.PrintLast Go.Proofs.YtgmciimgmnnhmaaW.PrintMore
attribute [local go_sem] max2_int min2_int max_two min_two max_three min_three max_four min_four   -- for this text's walks alone
set_option linter.unusedVariables false
set_option linter.unusedSimpArgs false
def impl_greatest.l0 : Nat → Int → List Int → Int → Int → Option (Int)
  | 0, _, _, _, _ => none
  | k + 1, x3, x6, x7, x8 => if x8 < x7 then (if 0 ≤ x8 then (if x8 < (x6.length : Int) then (impl_greatest.l0 k (mx x3 (rd x6 x8)) x6 x7 (wrap64 (x8 + 1))) else (none)) else (none)) else (some x3)
def impl_greatest.f (k : Nat) (l0 : List Int) : Option (Int) := impl_greatest.l0 k 0 l0 (l0.length : Int) 0
theorem impl_greatest.mono_l : ∀ k, (∀ y0 y1 y2 y3, LeO (impl_greatest.l0 k y0 y1 y2 y3) (impl_greatest.l0 (k + 1) y0 y1 y2 y3))
  | 0 => fun _ _ _ _ r h => by simp [impl_greatest.l0] at h
  | k + 1 => by
    have ih0 := impl_greatest.mono_l k
    · intro y0 y1 y2 y3
      unfold impl_greatest.l0
      repeat' first | (with_reducible exact ih0 _ _ _ _) | (with_reducible exact LeO.refl _) | (with_reducible exact LeO.none _) | (with_reducible refine LeO.ite ?_ ?_) | (with_reducible refine LeO.bind ?_ (fun _ => ?_)) | exact ih0 _ _ _ _ | exact LeO.none _ | refine LeO.ite ?_ ?_ | refine LeO.bind ?_ (fun _ => ?_)
theorem impl_greatest.mono : ∀ a0 k, LeO (impl_greatest.f k a0) (impl_greatest.f (k + 1) a0) := by
  intro a0 k
  have ih0 := impl_greatest.mono_l k
  unfold impl_greatest.f
  repeat' first | (with_reducible exact ih0 _ _ _ _) | (with_reducible exact LeO.refl _) | (with_reducible exact LeO.none _) | (with_reducible refine LeO.ite ?_ ?_) | (with_reducible refine LeO.bind ?_ (fun _ => ?_)) | exact ih0 _ _ _ _ | exact LeO.none _ | refine LeO.ite ?_ ?_ | refine LeO.bind ?_ (fun _ => ?_)
set_option maxHeartbeats 8000000 in
set_option maxRecDepth 100000 in
theorem impl_greatest.calls (k : Nat) (A0 : Option Addr) (c0 : Nat) (l0 : List Int) (r : Int) (w : World) (hr0 : Kd.C (Kd.int .i64) w A0 l0.length l0) (hc0 : l0.length ≤ c0) (h : impl_greatest.f k l0 = some r) :
    Calls Try.prog 30 #[.slice A0 l0.length c0] w fun e w' => e = .returned (.int .i64 r) ∧ Below w.heap.size w w' := by
 have HR0 := Aside0.mk hr0
 have HC0 := Aside0.mk hc0
 clear hr0 hc0
 have HB := Aside0.mk (Below.refl w.heap.size w)
 have H : (impl_greatest.l0 k 0 l0 (l0.length : Int) 0) = some r := h
 clear h
 have H' := Aside0.mk H
 clear H
 go_enter Try.func30, Try.ntmps30
 go_wp2
 go_loopg [3, 8] k (fun kq v3 v8 w' => ∃ (x3_1 : Int) (x8_1 : Int), v3 = .int .i64 x3_1 ∧ v8 = .int .i64 x8_1 ∧ Aside0 (impl_greatest.l0 kq x3_1 l0 (l0.length : Int) x8_1 = some r) ∧ Aside0 (kq ≤ k) ∧ Aside0 (Below w.heap.size w w'))
 case atStart => exact ⟨(0), (0), zF, zF, H', ⟨Nat.le_refl _⟩, ⟨zB⟩⟩
 clear H'
 obtain ⟨x3_1, x8_1, rfl, rfl, HA, HK1, HB⟩ := hrel
 cases gk with
 | zero => exact absurd HA.out (by simp [impl_greatest.l0])
 | succ k1 =>
   have H := HA.out
   clear HA
   simp only [impl_greatest.l0] at H
   by_cases c2 : x8_1 < (l0.length : Int)
   · rw [if_pos c2] at H
     have c2b0 : decide (x8_1 < (l0.length : Int)) = true := decide_eq_true c2
     clear c2
     by_cases c3 : 0 ≤ x8_1
     · rw [if_pos c3] at H
       have c3b0 : decide (0 ≤ x8_1) = true := decide_eq_true c3
       clear c3
       by_cases c4 : x8_1 < (l0.length : Int)
       · rw [if_pos c4] at H
         have c4b0 : decide (x8_1 < (l0.length : Int)) = true := decide_eq_true c4
         clear c4
         obtain ⟨ji5, hji5⟩ : ∃ j_ : Int, (mx x3_1 (rd l0 x8_1)) = j_ := ⟨_, rfl⟩
         replace H : (impl_greatest.l0 k1 ji5 l0 (l0.length : Int) (wrap64 (x8_1 + 1))) = some r := by first | (rw [hji5] at H; exact H) | (simp only [hji5] at H ⊢; exact H)
         have hji5_ : (if x3_1 < (rd l0 x8_1) then (rd l0 x8_1) else x3_1) = ji5 := hji5
         have H' := Aside0.mk H
         clear H
         have p101 : 0 ≤ (x8_1 : Int) := zD
         have q101 : x8_1 < (l0.length : Int) := zD
         obtain ⟨ad101, e101, hx101_0⟩ := Kd.at_int HR0.out x8_1 p101 q101
         cases e101
         replace hx101_0 := (HB.out.cell (World.block_lt_of_cell? w _ hx101_0)).trans hx101_0
         replace p101 := eq_true p101
         replace q101 := eq_true q101
         go_wp2
         go_roundg k1
         case measure => have := HK1.out; omega
         case rel => exact ⟨(ji5), (wrap64 (x8_1 + 1)), (by first | rfl | (simp; done) | (simp only [← hji5] <;> (first | rfl | simp)) | (simp [*]; done)), zF, H', ⟨by have := HK1.out; omega⟩, ⟨zB⟩⟩
       · rw [if_neg c4] at H
         exact absurd H (by simp)
     · rw [if_neg c3] at H
       exact absurd H (by simp)
   · rw [if_neg c2] at H
     have c2b0 : decide (x8_1 < (l0.length : Int)) = false := decide_eq_false c2
     clear c2
     obtain rfl := Option.some.inj H
     go_wp2
     go_ret
     exact ⟨zE, zB⟩
end Go.Proofs.Ytgmciimgmnnhmaa.P
end
section
namespace Go.Proofs.Ytgmciimgmnnhmaa.P
open Go.RowKit Go.Proofs.YtgmciimgmnnhmaaW.PrintWords Go.Proofs.YtgmciimgmnnhmaaW.PrintLast Go.Proofs.YtgmciimgmnnhmaaW.PrintMore
attribute [local go_sem] max2_int min2_int max_two min_two max_three min_three max_four min_four   -- for this text's walks alone
set_option linter.unusedVariables false
set_option linter.unusedSimpArgs false
def impl_TowerOf.l0 : Nat → List Int → Int → List Int → Int → Int → Option (Int × Int)
  | 0, _, _, _, _, _ => none
  | k + 1, x1, x7, x21, x22, x23 => if x23 < x22 then (if 0 ≤ x23 then (if x23 < (x21.length : Int) then ((impl_waits.f k x1 x23).bind fun t106 => (if (t106.length : Int) = 0 then (some (0, 4)) else ((impl_greatest.f k t106).bind fun t109 => (impl_TowerOf.l0 k x1 (mx x7 (wrap64 ((rd x21 x23) * t109))) x21 x22 (wrap64 (x23 + 1)))))) else (none)) else (none)) else (some (x7, 0))
def impl_TowerOf.f (k : Nat) (l0_0 : List Int) (l1 : List Int) : Option (Int × Int) := (impl_Garden_many.f l0_0).bind fun t102 => ((impl_areTurns.f l1 t102).bind fun t103 => ((impl_gardenCode.f l0_0 t103).bind fun t104 => (if t104 = 0 then (impl_TowerOf.l0 k l1 0 l0_0 (l0_0.length : Int) 0) else (some (0, t104)))))
theorem impl_TowerOf.mono_l : ∀ k, (∀ y0 y1 y2 y3 y4, LeO (impl_TowerOf.l0 k y0 y1 y2 y3 y4) (impl_TowerOf.l0 (k + 1) y0 y1 y2 y3 y4))
  | 0 => fun _ _ _ _ _ r h => by simp [impl_TowerOf.l0] at h
  | k + 1 => by
    have ih0 := impl_TowerOf.mono_l k
    · intro y0 y1 y2 y3 y4
      unfold impl_TowerOf.l0
      repeat' first | (with_reducible exact ih0 _ _ _ _ _) | (with_reducible exact impl_greatest.mono _ _) | (with_reducible exact impl_waits.mono _ _ _) | (with_reducible exact LeO.refl _) | (with_reducible exact LeO.none _) | (with_reducible refine LeO.ite ?_ ?_) | (with_reducible refine LeO.bind ?_ (fun _ => ?_)) | exact ih0 _ _ _ _ _ | exact impl_greatest.mono _ _ | exact impl_waits.mono _ _ _ | exact LeO.none _ | refine LeO.ite ?_ ?_ | refine LeO.bind ?_ (fun _ => ?_)
theorem impl_TowerOf.mono : ∀ a0 a1 k, LeO (impl_TowerOf.f k a0 a1) (impl_TowerOf.f (k + 1) a0 a1) := by
  intro a0 a1 k
  have ih0 := impl_TowerOf.mono_l k
  unfold impl_TowerOf.f
  repeat' first | (with_reducible exact ih0 _ _ _ _ _) | (with_reducible exact impl_greatest.mono _ _) | (with_reducible exact impl_waits.mono _ _ _) | (with_reducible exact LeO.refl _) | (with_reducible exact LeO.none _) | (with_reducible refine LeO.ite ?_ ?_) | (with_reducible refine LeO.bind ?_ (fun _ => ?_)) | exact ih0 _ _ _ _ _ | exact impl_greatest.mono _ _ | exact impl_waits.mono _ _ _ | exact LeO.none _ | refine LeO.ite ?_ ?_ | refine LeO.bind ?_ (fun _ => ?_)
set_option maxHeartbeats 8000000 in
set_option maxRecDepth 100000 in
theorem impl_TowerOf.calls (k : Nat) (A0_0 : Option Addr) (c0_0 : Nat) (l0_0 : List Int) (A1 : Option Addr) (c1 : Nat) (l1 : List Int) (r1 : Int) (r2 : Int) (w : World) (hr0_0 : Kd.C (Kd.int .i64) w A0_0 l0_0.length l0_0) (hc0_0 : l0_0.length ≤ c0_0) (hr1 : Kd.C (Kd.int .i64) w A1 l1.length l1) (hc1 : l1.length ≤ c1) (h : impl_TowerOf.f k l0_0 l1 = some (r1, r2)) :
    Calls Try.prog 6 #[.agg #[.slice A0_0 l0_0.length c0_0], .slice A1 l1.length c1] w fun e w' => e = .returned (.tuple #[.int .i64 r1, .int .i64 r2]) ∧ Below w.heap.size w w' := by
 have hu26 := Try.underlying26
 have HR0_0 := Aside0.mk hr0_0
 have HC0_0 := Aside0.mk hc0_0
 clear hr0_0 hc0_0
 have HR1 := Aside0.mk hr1
 have HC1 := Aside0.mk hc1
 clear hr1 hc1
 have HB := Aside0.mk (Below.refl w.heap.size w)
 have H : ((impl_Garden_many.f l0_0).bind fun t102 => ((impl_areTurns.f l1 t102).bind fun t103 => ((impl_gardenCode.f l0_0 t103).bind fun t104 => (if t104 = 0 then (impl_TowerOf.l0 k l1 0 l0_0 (l0_0.length : Int) 0) else (some (0, t104)))))) = some (r1, r2) := h
 clear h
 replace H := Option.bind_eq_some_iff.mp H
 obtain ⟨t102, A30, H⟩ := H
 replace H : ((impl_areTurns.f l1 t102).bind fun t103 => ((impl_gardenCode.f l0_0 t103).bind fun t104 => (if t104 = 0 then (impl_TowerOf.l0 k l1 0 l0_0 (l0_0.length : Int) 0) else (some (0, t104))))) = some (r1, r2) := H
 have A3 := Aside0.mk A30
 clear A30
 replace H := Option.bind_eq_some_iff.mp H
 obtain ⟨t103, A40, H⟩ := H
 replace H : ((impl_gardenCode.f l0_0 t103).bind fun t104 => (if t104 = 0 then (impl_TowerOf.l0 k l1 0 l0_0 (l0_0.length : Int) 0) else (some (0, t104)))) = some (r1, r2) := H
 have A4 := Aside0.mk A40
 clear A40
 replace H := Option.bind_eq_some_iff.mp H
 obtain ⟨t104, A50, H⟩ := H
 replace H : (if t104 = 0 then (impl_TowerOf.l0 k l1 0 l0_0 (l0_0.length : Int) 0) else (some (0, t104))) = some (r1, r2) := H
 have A5 := Aside0.mk A50
 clear A50
 by_cases c6 : t104 = 0
 ·
  rw [if_pos c6] at H
  have c6b0 : (t104 == 0) = true := beq_iff_eq.mpr c6
  have c6b1 : (t104 != 0) = false := bne_eq_false_iff_eq.mpr c6
  clear c6
  have H' := Aside0.mk H
  clear H
  go_enter Try.func6, Try.ntmps6
  try go_wp2_with (first | ((with_reducible refine gate_dst (N := 2) rfl ?_); refine box_event zr (N := 2) zr (cs := #[.slice A0_0 l0_0.length c0_0]) (t := 26) zg ?_; intro gb101 hg w7 hbox hb; have n_ := y4 (below_step (zB) hb) (hbox) ((zS hg : w.heap.size ≤ gb101)) ((zS hg : w.heap.size ≤ gb101)); clear HB; obtain ⟨HB, BK101, GW101, GE101⟩ := n_; clear hb hbox hg))
  have n_ := y2 (blk_drew BK101.out) (below_drew1 HB.out)
  clear BK101 HB
  obtain ⟨BK101, HB⟩ := n_
  refine start_ (n := 7) (S := fun w' => w'.cell? ⟨gb101, 0, none⟩ = some (.slice A0_0 l0_0.length c0_0)) (ds := []) #[false,false,false,false,false,false,false] zk rfl rfl ((blk_cell BK101.out 0).trans rfl) (fun hHeld => ?_)
  generalize w7.drew = w8 at BK101 HB hHeld ⊢
  refine pure_ (i := 1) (N := some 12) (v := ?_) (a' := ?_) #[false,true,false,false,false,false,false] rfl rfl zk (fun _ _ _ h => h) (Or.inl ⟨by rfl, ?_⟩) ?_ ?_
  rotate_left; exact zp; rotate_left; exact zq
  refine take_ (i := 0) (N := some 11) (v := ?_) (a' := ?_) #[true,true,false,false,false,false,false] rfl rfl zk (fun _ _ _ h => h) (Or.inl ⟨by rfl, ?_⟩) hHeld ?_ ?_
  rotate_left
  ·
   intro w' s0
   go_simp
   with_reducible rfl
  rotate_left
  ·
   simp only [Act.put, List.setIfInBounds_toArray, List.set_cons_zero, List.set_cons_succ, i64_w, i32_w]
   rfl
  refine take_ (i := 2) (N := some 13) (v := ?_) (a' := ?_) #[true,true,true,false,false,false,false] rfl rfl zk (fun _ _ _ h => h) (Or.inl ⟨by rfl, ?_⟩) hHeld ?_ ?_
  rotate_left
  ·
   intro w' s0
   go_simp
   with_reducible rfl
  rotate_left
  ·
   simp only [Act.put, List.setIfInBounds_toArray, List.set_cons_zero, List.set_cons_succ, i64_w, i32_w]
   rfl
  refine one_ (i := 3) (N := some 14) #[true,true,true,true,false,false,false] rfl rfl zk (by decide) (fun K hK => ?_)
  refine goes_ Try.func28 zk rfl #[.agg #[.slice A0_0 l0_0.length c0_0]] (by rfl) rfl rfl zA ?_
  with_reducible refine (impl_Garden_many.calls _ _ l0_0 t102 _ ?side1 ?side2 A3.out).mono ?_
  (case side1 => exact zC (Kd.C_below HR0_0.out HB.out))
  (case side2 => exact HC0_0.out)
  rintro e w9 ⟨rfl, hb⟩
  refine ⟨_, rfl, ?_⟩
  have n_ := y2 (zb BK101.out hb) (below_step (zB) hb)
  clear BK101 HB
  obtain ⟨BK101, HB⟩ := n_
  (try clear hb)
  (try clear hb2)
  (try clear hk)
  (try clear hi)
  refine hK.out _ _ ((blk_cell BK101.out 0).trans rfl) (fun hHeld => ?_)
  clear hK K
  refine norm_ (a' := ?_) ?_ ?_
  rotate_left
  ·
   show Act.put _ (some 14) _ = _
   simp only [Act.put, List.setIfInBounds_toArray, List.set_cons_zero, List.set_cons_succ, i64_w, i32_w]
   rfl
  refine one_ (i := 4) (N := some 15) #[true,true,true,true,true,false,false] rfl rfl zk (by decide) (fun K hK => ?_)
  refine goes_ Try.func27 zk rfl #[.slice A1 l1.length c1, .int .i64 t102] (by rfl) rfl rfl zA ?_
  with_reducible refine (impl_areTurns.calls _ _ l1 t102 t103 _ ?side1 ?side2 A4.out).mono ?_
  (case side1 => exact zC (Kd.C_below HR1.out HB.out))
  (case side2 => exact HC1.out)
  rintro e w10 ⟨rfl, hb⟩
  refine ⟨_, rfl, ?_⟩
  have n_ := y2 (zb BK101.out hb) (below_step (zB) hb)
  clear BK101 HB
  obtain ⟨BK101, HB⟩ := n_
  (try clear hb)
  (try clear hb2)
  (try clear hk)
  (try clear hi)
  refine hK.out _ _ ((blk_cell BK101.out 0).trans rfl) (fun hHeld => ?_)
  clear hK K
  refine norm_ (a' := ?_) ?_ ?_
  rotate_left
  ·
   show Act.put _ (some 15) _ = _
   simp only [Act.put, List.setIfInBounds_toArray, List.set_cons_zero, List.set_cons_succ, i64_w, i32_w]
   rfl
  refine one_ (i := 5) (N := some 16) #[true,true,true,true,true,true,false] rfl rfl zk (by decide) (fun K hK => ?_)
  refine goes_ Try.func26 zk rfl #[.agg #[.slice A0_0 l0_0.length c0_0], .bool t103] (by rfl) rfl rfl zA ?_
  with_reducible refine (impl_gardenCode.calls _ _ l0_0 t103 t104 _ ?side1 ?side2 A5.out).mono ?_
  (case side1 => exact zC (Kd.C_below HR0_0.out HB.out))
  (case side2 => exact HC0_0.out)
  rintro e w11 ⟨rfl, hb⟩
  refine ⟨_, rfl, ?_⟩
  have n_ := y2 (zb BK101.out hb) (below_step (zB) hb)
  clear BK101 HB
  obtain ⟨BK101, HB⟩ := n_
  (try clear hb)
  (try clear hb2)
  (try clear hk)
  (try clear hi)
  refine hK.out _ _ ((blk_cell BK101.out 0).trans rfl) (fun hHeld => ?_)
  clear hK K
  refine norm_ (a' := ?_) ?_ ?_
  rotate_left
  ·
   show Act.put _ (some 16) _ = _
   simp only [Act.put, List.setIfInBounds_toArray, List.set_cons_zero, List.set_cons_succ, i64_w, i32_w]
   rfl
  refine pure_ (i := 6) (N := some 6) (v := ?_) (a' := ?_) #[true,true,true,true,true,true,true] rfl rfl zk (fun _ _ _ h => h) (Or.inl ⟨by rfl, ?_⟩) ?_ ?_
  rotate_left; exact zp; rotate_left; exact zq
  refine done_ zk ?_
  have hcz12_0 := zc BK101.out
  have hfz12_0 := blk_frozen BK101.out 0
  try go_wp2
  go_loopg [7, 23] k (fun kq v7 v23 w' => ∃ (x7_1 : Int) (x23_1 : Int), v7 = .int .i64 x7_1 ∧ v23 = .int .i64 x23_1 ∧ Aside0 (impl_TowerOf.l0 kq l1 x7_1 l0_0 (l0_0.length : Int) x23_1 = some (r1, r2)) ∧ Aside0 (kq ≤ k) ∧ Aside0 (w'.heap[gb101]? = some (.cells #[(.slice A0_0 l0_0.length c0_0)] 26 (0, 0))) ∧ Aside0 (Below w.heap.size w w'))
  case atStart => exact ⟨(0), (0), zF, zF, H', ⟨Nat.le_refl _⟩, ⟨zG BK101.out⟩, ⟨zB⟩⟩
  clear H'
  try clear c1
  try clear c6
  try clear c6b0
  try clear c6b1
  try clear hcz12_0
  try clear hfz12_0
  obtain ⟨x7_1, x23_1, rfl, rfl, HA, HK1, BK101, HB⟩ := hrel
  cases gk with
  | zero => exact absurd HA.out (by simp [impl_TowerOf.l0])
  | succ k1 =>
    have H := HA.out
    clear HA
    simp only [impl_TowerOf.l0] at H
    by_cases c13 : x23_1 < (l0_0.length : Int)
    · rw [if_pos c13] at H
      have c13b0 : decide (x23_1 < (l0_0.length : Int)) = true := decide_eq_true c13
      clear c13
      by_cases c14 : 0 ≤ x23_1
      · rw [if_pos c14] at H
        have c14b0 : decide (0 ≤ x23_1) = true := decide_eq_true c14
        clear c14
        by_cases c15 : x23_1 < (l0_0.length : Int)
        · rw [if_pos c15] at H
          have c15b0 : decide (x23_1 < (l0_0.length : Int)) = true := decide_eq_true c15
          clear c15
          replace H := Option.bind_eq_some_iff.mp H
          obtain ⟨t106, A160, H⟩ := H
          replace H : (if (t106.length : Int) = 0 then (some (0, 4)) else ((impl_greatest.f k1 t106).bind fun t109 => (impl_TowerOf.l0 k1 l1 (mx x7_1 (wrap64 ((rd l0_0 x23_1) * t109))) l0_0 (l0_0.length : Int) (wrap64 (x23_1 + 1))))) = some (r1, r2) := H
          have A16 := Aside0.mk A160
          clear A160
          by_cases c17 : (t106.length : Int) = 0
          · rw [if_pos c17] at H
            have c17b0 : ((t106.length : Int) == 0) = true := beq_iff_eq.mpr c17
            have c17b1 : ((t106.length : Int) != 0) = false := bne_eq_false_iff_eq.mpr c17
            clear c17
            simp only [Option.some.injEq, Prod.mk.injEq] at H
            obtain ⟨rfl, rfl⟩ := H
            have p105 : 0 ≤ (x23_1 : Int) := zD
            have q105 : x23_1 < (l0_0.length : Int) := zD
            obtain ⟨ad105, e105, hx105_0⟩ := Kd.at_int HR0_0.out x23_1 p105 q105
            cases e105
            replace hx105_0 := (HB.out.cell (World.block_lt_of_cell? w _ hx105_0)).trans hx105_0
            replace p105 := eq_true p105
            replace q105 := eq_true q105
            go_wp2_with (first | ((with_reducible refine gate_callee (f := 29) rfl ?_); refine goesL_ (some 30) rfl rfl Try.func29 zk rfl #[.slice A1 l1.length c1, .int .i64 x23_1] rfl zA ?_; (with_reducible refine (impl_waits.calls k1 _ _ l1 x23_1 t106 _ ?side1 ?side2 A16.out).mono ?_); (case side1 => exact zC (Kd.C_below HR1.out HB.out)); (case side2 => exact HC1.out); rintro e w18 ⟨v107, rfl, ho0, hb⟩; refine ⟨_, rfl, ?_⟩; have n_ := y3 (Kd.R_lower ho0 (below_size (zB))) (zb BK101.out hb) (below_step (zB) hb); clear BK101 HB; obtain ⟨HO108, BK101, HB⟩ := n_; (try clear hb); (try clear hb2); (try clear hk); (try clear hi); (try clear ho0); obtain ⟨Ao19, co19, eo19⟩ := Kd.R_slice HO108.out; subst eo19))
            go_ret2
            exact ⟨zE, zB⟩
          · rw [if_neg c17] at H
            have c17b0 : ((t106.length : Int) == 0) = false := beq_eq_false_iff_ne.mpr c17
            have c17b1 : ((t106.length : Int) != 0) = true := bne_iff_ne.mpr c17
            have c17b2 : ¬ (t106 = []) := fun h_ => c17 (by rw [h_]; rfl)
            replace H := Option.bind_eq_some_iff.mp H
            obtain ⟨t109, A200, H⟩ := H
            replace H : (impl_TowerOf.l0 k1 l1 (mx x7_1 (wrap64 ((rd l0_0 x23_1) * t109))) l0_0 (l0_0.length : Int) (wrap64 (x23_1 + 1))) = some (r1, r2) := H
            have A20 := Aside0.mk A200
            clear A200
            obtain ⟨ji21, hji21⟩ : ∃ j_ : Int, (mx x7_1 (wrap64 ((rd l0_0 x23_1) * t109))) = j_ := ⟨_, rfl⟩
            replace H : (impl_TowerOf.l0 k1 l1 ji21 l0_0 (l0_0.length : Int) (wrap64 (x23_1 + 1))) = some (r1, r2) := by first | (rw [hji21] at H; exact H) | (simp only [hji21] at H ⊢; exact H)
            (try rw [hji21] at A16)
            (try rw [hji21] at A20)
            have hji21_ : (if x7_1 < (wrap64 ((rd l0_0 x23_1) * t109)) then (wrap64 ((rd l0_0 x23_1) * t109)) else x7_1) = ji21 := hji21
            have H' := Aside0.mk H
            clear H
            have p105 : 0 ≤ (x23_1 : Int) := zD
            have q105 : x23_1 < (l0_0.length : Int) := zD
            obtain ⟨ad105, e105, hx105_0⟩ := Kd.at_int HR0_0.out x23_1 p105 q105
            cases e105
            replace hx105_0 := (HB.out.cell (World.block_lt_of_cell? w _ hx105_0)).trans hx105_0
            replace p105 := eq_true p105
            replace q105 := eq_true q105
            go_wp2_with (first | ((with_reducible refine gate_callee (f := 29) rfl ?_); refine goesL_ (some 30) rfl rfl Try.func29 zk rfl #[.slice A1 l1.length c1, .int .i64 x23_1] rfl zA ?_; (with_reducible refine (impl_waits.calls k1 _ _ l1 x23_1 t106 _ ?side1 ?side2 A16.out).mono ?_); (case side1 => exact zC (Kd.C_below HR1.out HB.out)); (case side2 => exact HC1.out); rintro e w22 ⟨v107, rfl, ho0, hb⟩; refine ⟨_, rfl, ?_⟩; have n_ := y3 (Kd.R_lower ho0 (below_size (zB))) (zb BK101.out hb) (below_step (zB) hb); clear BK101 HB; obtain ⟨HO108, BK101, HB⟩ := n_; (try clear hb); (try clear hb2); (try clear hk); (try clear hi); (try clear ho0); obtain ⟨Ao23, co23, eo23⟩ := Kd.R_slice HO108.out; subst eo23) | ((with_reducible refine gate_callee (f := 30) rfl ?_); refine goesL_ (some 37) rfl rfl Try.func30 zk rfl #[.slice Ao23 t106.length co23] rfl zA ?_; (with_reducible refine (impl_greatest.calls k1 _ _ t106 t109 _ ?side1 ?side2 A20.out).mono ?_); (case side1 => exact zC (Kd.R_reads' HO108.out).2.2); (case side2 => exact (Kd.R_reads' HO108.out).2.1); rintro e w24 ⟨rfl, hb⟩; refine ⟨_, rfl, ?_⟩; have n_ := y3 (Kd.R_below (zR HO108.out) hb) (zb BK101.out hb) (below_step (zB) hb); clear HO108 BK101 HB; obtain ⟨HO108, BK101, HB⟩ := n_; (try clear hb); (try clear hb2); (try clear hk); (try clear hi)))
            go_roundg k1
            case measure => have := HK1.out; omega
            case rel => exact ⟨(ji21), (wrap64 (x23_1 + 1)), (by first | rfl | (simp; done) | (simp only [← hji21] <;> (first | rfl | simp)) | (simp [*]; done)), zF, H', ⟨by have := HK1.out; omega⟩, ⟨zG BK101.out⟩, ⟨zB⟩⟩
        · rw [if_neg c15] at H
          exact absurd H (by simp)
      · rw [if_neg c14] at H
        exact absurd H (by simp)
    · rw [if_neg c13] at H
      have c13b0 : decide (x23_1 < (l0_0.length : Int)) = false := decide_eq_false c13
      clear c13
      simp only [Option.some.injEq, Prod.mk.injEq] at H
      obtain ⟨rfl, rfl⟩ := H
      go_wp2
      go_ret2
      exact ⟨zE, zB⟩
 rw [if_neg c6] at H
 have c6b0 : (t104 == 0) = false := beq_eq_false_iff_ne.mpr c6
 have c6b1 : (t104 != 0) = true := bne_iff_ne.mpr c6
 simp only [Option.some.injEq, Prod.mk.injEq] at H
 obtain ⟨rfl, rfl⟩ := H
 go_enter Try.func6, Try.ntmps6
 try go_wp2_with (first | ((with_reducible refine gate_dst (N := 2) rfl ?_); refine box_event zr (N := 2) zr (cs := #[.slice A0_0 l0_0.length c0_0]) (t := 26) zg ?_; intro gb101 hg w25 hbox hb; have n_ := y4 (below_step (zB) hb) (hbox) ((zS hg : w.heap.size ≤ gb101)) ((zS hg : w.heap.size ≤ gb101)); clear HB; obtain ⟨HB, BK101, GW101, GE101⟩ := n_; clear hb hbox hg))
 have n_ := y2 (blk_drew BK101.out) (below_drew1 HB.out)
 clear BK101 HB
 obtain ⟨BK101, HB⟩ := n_
 refine start_ (n := 7) (S := fun w' => w'.cell? ⟨gb101, 0, none⟩ = some (.slice A0_0 l0_0.length c0_0)) (ds := []) #[false,false,false,false,false,false,false] zk rfl rfl ((blk_cell BK101.out 0).trans rfl) (fun hHeld => ?_)
 generalize w25.drew = w26 at BK101 HB hHeld ⊢
 refine pure_ (i := 1) (N := some 12) (v := ?_) (a' := ?_) #[false,true,false,false,false,false,false] rfl rfl zk (fun _ _ _ h => h) (Or.inl ⟨by rfl, ?_⟩) ?_ ?_
 rotate_left; exact zp; rotate_left; exact zq
 refine take_ (i := 0) (N := some 11) (v := ?_) (a' := ?_) #[true,true,false,false,false,false,false] rfl rfl zk (fun _ _ _ h => h) (Or.inl ⟨by rfl, ?_⟩) hHeld ?_ ?_
 rotate_left
 ·
  intro w' s0
  go_simp
  with_reducible rfl
 rotate_left
 ·
  simp only [Act.put, List.setIfInBounds_toArray, List.set_cons_zero, List.set_cons_succ, i64_w, i32_w]
  rfl
 refine take_ (i := 2) (N := some 13) (v := ?_) (a' := ?_) #[true,true,true,false,false,false,false] rfl rfl zk (fun _ _ _ h => h) (Or.inl ⟨by rfl, ?_⟩) hHeld ?_ ?_
 rotate_left
 ·
  intro w' s0
  go_simp
  with_reducible rfl
 rotate_left
 ·
  simp only [Act.put, List.setIfInBounds_toArray, List.set_cons_zero, List.set_cons_succ, i64_w, i32_w]
  rfl
 refine one_ (i := 3) (N := some 14) #[true,true,true,true,false,false,false] rfl rfl zk (by decide) (fun K hK => ?_)
 refine goes_ Try.func28 zk rfl #[.agg #[.slice A0_0 l0_0.length c0_0]] (by rfl) rfl rfl zA ?_
 with_reducible refine (impl_Garden_many.calls _ _ l0_0 t102 _ ?side1 ?side2 A3.out).mono ?_
 (case side1 => exact zC (Kd.C_below HR0_0.out HB.out))
 (case side2 => exact HC0_0.out)
 rintro e w27 ⟨rfl, hb⟩
 refine ⟨_, rfl, ?_⟩
 have n_ := y2 (zb BK101.out hb) (below_step (zB) hb)
 clear BK101 HB
 obtain ⟨BK101, HB⟩ := n_
 (try clear hb)
 (try clear hb2)
 (try clear hk)
 (try clear hi)
 refine hK.out _ _ ((blk_cell BK101.out 0).trans rfl) (fun hHeld => ?_)
 clear hK K
 refine norm_ (a' := ?_) ?_ ?_
 rotate_left
 ·
  show Act.put _ (some 14) _ = _
  simp only [Act.put, List.setIfInBounds_toArray, List.set_cons_zero, List.set_cons_succ, i64_w, i32_w]
  rfl
 refine one_ (i := 4) (N := some 15) #[true,true,true,true,true,false,false] rfl rfl zk (by decide) (fun K hK => ?_)
 refine goes_ Try.func27 zk rfl #[.slice A1 l1.length c1, .int .i64 t102] (by rfl) rfl rfl zA ?_
 with_reducible refine (impl_areTurns.calls _ _ l1 t102 t103 _ ?side1 ?side2 A4.out).mono ?_
 (case side1 => exact zC (Kd.C_below HR1.out HB.out))
 (case side2 => exact HC1.out)
 rintro e w28 ⟨rfl, hb⟩
 refine ⟨_, rfl, ?_⟩
 have n_ := y2 (zb BK101.out hb) (below_step (zB) hb)
 clear BK101 HB
 obtain ⟨BK101, HB⟩ := n_
 (try clear hb)
 (try clear hb2)
 (try clear hk)
 (try clear hi)
 refine hK.out _ _ ((blk_cell BK101.out 0).trans rfl) (fun hHeld => ?_)
 clear hK K
 refine norm_ (a' := ?_) ?_ ?_
 rotate_left
 ·
  show Act.put _ (some 15) _ = _
  simp only [Act.put, List.setIfInBounds_toArray, List.set_cons_zero, List.set_cons_succ, i64_w, i32_w]
  rfl
 refine one_ (i := 5) (N := some 16) #[true,true,true,true,true,true,false] rfl rfl zk (by decide) (fun K hK => ?_)
 refine goes_ Try.func26 zk rfl #[.agg #[.slice A0_0 l0_0.length c0_0], .bool t103] (by rfl) rfl rfl zA ?_
 with_reducible refine (impl_gardenCode.calls _ _ l0_0 t103 t104 _ ?side1 ?side2 A5.out).mono ?_
 (case side1 => exact zC (Kd.C_below HR0_0.out HB.out))
 (case side2 => exact HC0_0.out)
 rintro e w29 ⟨rfl, hb⟩
 refine ⟨_, rfl, ?_⟩
 have n_ := y2 (zb BK101.out hb) (below_step (zB) hb)
 clear BK101 HB
 obtain ⟨BK101, HB⟩ := n_
 (try clear hb)
 (try clear hb2)
 (try clear hk)
 (try clear hi)
 refine hK.out _ _ ((blk_cell BK101.out 0).trans rfl) (fun hHeld => ?_)
 clear hK K
 refine norm_ (a' := ?_) ?_ ?_
 rotate_left
 ·
  show Act.put _ (some 16) _ = _
  simp only [Act.put, List.setIfInBounds_toArray, List.set_cons_zero, List.set_cons_succ, i64_w, i32_w]
  rfl
 refine pure_ (i := 6) (N := some 6) (v := ?_) (a' := ?_) #[true,true,true,true,true,true,true] rfl rfl zk (fun _ _ _ h => h) (Or.inl ⟨by rfl, ?_⟩) ?_ ?_
 rotate_left; exact zp; rotate_left; exact zq
 refine done_ zk ?_
 try go_wp2
 go_ret2
 exact ⟨zE, zB⟩
end Go.Proofs.Ytgmciimgmnnhmaa.P
end
section
namespace Go.Proofs.Ytgmciimgmnnhmaa.P
open Go.RowKit Go.Proofs.YtgmciimgmnnhmaaW.PrintWords Go.Proofs.YtgmciimgmnnhmaaW.PrintLast Go.Proofs.YtgmciimgmnnhmaaW.PrintMore
attribute [local go_sem] max2_int min2_int max_two min_two max_three min_three max_four min_four   -- for this text's walks alone
set_option linter.unusedVariables false
set_option linter.unusedSimpArgs false
def spec_l01In.f (a0 : Int) (a1 : Int) (a2 : Int) : Option (Bool) := if a0 ≥ a1 then (some (decide (a0 ≤ a2))) else (some false)
set_option maxHeartbeats 8000000 in
set_option maxRecDepth 100000 in
theorem spec_l01In.calls (a0 : Int) (a1 : Int) (a2 : Int) (r : Bool) (w : World) (h : spec_l01In.f a0 a1 a2 = some r) :
    Calls Try.prog 40 #[.int .i64 a0, .int .i64 a1, .int .i64 a2] w fun e w' => e = .returned (.bool r) ∧ Drawn0 w w' := by
 have H : (if a0 ≥ a1 then (some (decide (a0 ≤ a2))) else (some false)) = some r := h
 clear h
 by_cases c4 : a0 ≥ a1
 ·
  rw [if_pos c4] at H
  have c4b0 : decide (a1 ≤ a0) = true := decide_eq_true c4
  clear c4
  obtain rfl := Option.some.inj H
  go_enter Try.func40, Try.ntmps40
  go_wp2
  go_ret
  exact ⟨by first | rfl | (simp; done) | (simp [*]; done), by repeat (first | exact Drawn0.refl _ | apply Drawn0.step)⟩
 rw [if_neg c4] at H
 have c4b0 : decide (a1 ≤ a0) = false := decide_eq_false c4
 clear c4
 obtain rfl := Option.some.inj H
 go_enter Try.func40, Try.ntmps40
 go_wp2
 go_ret
 exact ⟨by first | rfl | (simp; done) | (simp [*]; done), by repeat (first | exact Drawn0.refl _ | apply Drawn0.step)⟩
end Go.Proofs.Ytgmciimgmnnhmaa.P
end
section
namespace Go.Proofs.Ytgmciimgmnnhmaa.P
open Go.RowKit Go.Proofs.YtgmciimgmnnhmaaW.PrintWords Go.Proofs.YtgmciimgmnnhmaaW.PrintLast Go.Proofs.YtgmciimgmnnhmaaW.PrintMore
attribute [local go_sem] max2_int min2_int max_two min_two max_three min_three max_four min_four   -- for this text's walks alone
set_option linter.unusedVariables false
set_option linter.unusedSimpArgs false
def spec_l06Is.l0 : Nat → Int → List Int → Option (Bool)
  | 0, _, _ => none
  | k + 1, x3, x102000 => if x3 < (x102000.length : Int) then (if 0 ≤ x3 then ((spec_l01In.f (rd x102000 x3) 1 20).bind fun t103 => (if t103 = true then (spec_l06Is.l0 k (wrap64 (x3 + 1)) x102000) else (some false))) else (none)) else (if (x102000.length : Int) > 0 then (some (decide ((x102000.length : Int) ≤ 8))) else (some false))
def spec_l06Is.f (k : Nat) (l0_0 : List Int) : Option (Bool) := spec_l06Is.l0 k 0 l0_0
theorem spec_l06Is.mono_l : ∀ k, (∀ y0 y1, LeO (spec_l06Is.l0 k y0 y1) (spec_l06Is.l0 (k + 1) y0 y1))
  | 0 => fun _ _ r h => by simp [spec_l06Is.l0] at h
  | k + 1 => by
    have ih0 := spec_l06Is.mono_l k
    · intro y0 y1
      unfold spec_l06Is.l0
      repeat' first | (with_reducible exact ih0 _ _) | (with_reducible exact LeO.refl _) | (with_reducible exact LeO.none _) | (with_reducible refine LeO.ite ?_ ?_) | (with_reducible refine LeO.bind ?_ (fun _ => ?_)) | exact ih0 _ _ | exact LeO.none _ | refine LeO.ite ?_ ?_ | refine LeO.bind ?_ (fun _ => ?_)
theorem spec_l06Is.mono : ∀ a0 k, LeO (spec_l06Is.f k a0) (spec_l06Is.f (k + 1) a0) := by
  intro a0 k
  have ih0 := spec_l06Is.mono_l k
  unfold spec_l06Is.f
  repeat' first | (with_reducible exact ih0 _ _) | (with_reducible exact LeO.refl _) | (with_reducible exact LeO.none _) | (with_reducible refine LeO.ite ?_ ?_) | (with_reducible refine LeO.bind ?_ (fun _ => ?_)) | exact ih0 _ _ | exact LeO.none _ | refine LeO.ite ?_ ?_ | refine LeO.bind ?_ (fun _ => ?_)
set_option maxHeartbeats 8000000 in
set_option maxRecDepth 100000 in
theorem spec_l06Is.calls (k : Nat) (A0_0 : Option Addr) (c0_0 : Nat) (l0_0 : List Int) (r : Bool) (w : World) (hr0_0 : Kd.C (Kd.int .i64) w A0_0 l0_0.length l0_0) (hc0_0 : l0_0.length ≤ c0_0) (h : spec_l06Is.f k l0_0 = some r) :
    Calls Try.prog 52 #[.agg #[.slice A0_0 l0_0.length c0_0]] w fun e w' => e = .returned (.bool r) ∧ Below w.heap.size w w' := by
 have hu26 := Try.underlying26
 have HR0_0 := Aside0.mk hr0_0
 have HC0_0 := Aside0.mk hc0_0
 clear hr0_0 hc0_0
 have HB := Aside0.mk (Below.refl w.heap.size w)
 have H : (spec_l06Is.l0 k 0 l0_0) = some r := h
 clear h
 have H' := Aside0.mk H
 clear H
 go_enter Try.func52, Try.ntmps52
 go_wp2_with (first | ((with_reducible refine gate_dst (N := 1) rfl ?_); (try (refine gate_guard (by rfl) ?_; dsimp only)); refine box_event zr (N := 1) zr (cs := #[.slice A0_0 l0_0.length c0_0]) (t := 26) zg ?_; intro gb101 hg w2 hbox hb; have n_ := y4 (below_step (zB) hb) (hbox) ((zS hg : w.heap.size ≤ gb101)) ((zS hg : w.heap.size ≤ gb101)); clear HB; obtain ⟨HB, BK101, GW101, GE101⟩ := n_; clear hb hbox hg))
 go_loopg [3] k (fun kq v3 w' => ∃ (x3_1 : Int), v3 = .int .i64 x3_1 ∧ Aside0 (spec_l06Is.l0 kq x3_1 l0_0 = some r) ∧ Aside0 (kq ≤ k) ∧ Aside0 (w'.heap[gb101]? = some (.cells #[(.slice A0_0 l0_0.length c0_0)] 26 (0, 0))) ∧ Aside0 (Below w.heap.size w w'))
 case atStart => exact ⟨(0), zF, H', ⟨Nat.le_refl _⟩, ⟨zG BK101.out⟩, ⟨zB⟩⟩
 clear H'
 obtain ⟨x3_1, rfl, HA, HK1, BK101, HB⟩ := hrel
 cases gk with
 | zero => exact absurd HA.out (by simp [spec_l06Is.l0])
 | succ k1 =>
   have H := HA.out
   clear HA
   simp only [spec_l06Is.l0] at H
   by_cases c3 : x3_1 < (l0_0.length : Int)
   · rw [if_pos c3] at H
     have c3b0 : decide (x3_1 < (l0_0.length : Int)) = true := decide_eq_true c3
     clear c3
     by_cases c4 : 0 ≤ x3_1
     · rw [if_pos c4] at H
       have c4b0 : decide (0 ≤ x3_1) = true := decide_eq_true c4
       clear c4
       replace H := Option.bind_eq_some_iff.mp H
       obtain ⟨t103, A50, H⟩ := H
       replace H : (if t103 = true then (spec_l06Is.l0 k1 (wrap64 (x3_1 + 1)) l0_0) else (some false)) = some r := H
       have A5 := Aside0.mk A50
       clear A50
       by_cases c6 : t103 = true
       · subst c6
         have H1 : (spec_l06Is.l0 k1 (wrap64 (x3_1 + 1)) l0_0) = some r := by rw [if_pos rfl] at H; exact H
         clear H
         have H := H1
         clear H1
         have H' := Aside0.mk H
         clear H
         have hcz7_0 := zc BK101.out
         have hfz7_0 := blk_frozen BK101.out 0
         have p102 : 0 ≤ (x3_1 : Int) := zD
         have q102 : x3_1 < (l0_0.length : Int) := zD
         obtain ⟨ad102, e102, hx102_0⟩ := Kd.at_int HR0_0.out x3_1 p102 q102
         cases e102
         replace hx102_0 := (HB.out.cell (World.block_lt_of_cell? w _ hx102_0)).trans hx102_0
         replace p102 := eq_true p102
         replace q102 := eq_true q102
         go_wp2_with (first | ((with_reducible refine gate_callee (f := 40) rfl ?_); refine goesL_ (some 16) rfl rfl Try.func40 zk rfl #[.int .i64 (rd l0_0 x3_1), .int .i64 1, .int .i64 20] rfl zA ?_; (with_reducible refine (spec_l01In.calls (rd l0_0 x3_1) 1 20 true _ A5.out).mono ?_); rintro e w' ⟨rfl, ⟨nd, rfl⟩⟩; refine ⟨_, rfl, ?_⟩))
         go_roundg k1
         case measure => have := HK1.out; omega
         case rel => exact ⟨(wrap64 (x3_1 + 1)), zF, H', ⟨by have := HK1.out; omega⟩, ⟨zG BK101.out⟩, ⟨zB⟩⟩
       · replace c6 := Bool.eq_false_iff.mpr c6
         subst c6
         have H1 : (some false) = some r := by rw [if_neg (show ¬ (false = true) by decide)] at H; exact H
         clear H
         have H := H1
         clear H1
         obtain rfl := Option.some.inj H
         have hcz8_0 := zc BK101.out
         have hfz8_0 := blk_frozen BK101.out 0
         have p102 : 0 ≤ (x3_1 : Int) := zD
         have q102 : x3_1 < (l0_0.length : Int) := zD
         obtain ⟨ad102, e102, hx102_0⟩ := Kd.at_int HR0_0.out x3_1 p102 q102
         cases e102
         replace hx102_0 := (HB.out.cell (World.block_lt_of_cell? w _ hx102_0)).trans hx102_0
         replace p102 := eq_true p102
         replace q102 := eq_true q102
         go_wp2_with (first | ((with_reducible refine gate_callee (f := 40) rfl ?_); refine goesL_ (some 16) rfl rfl Try.func40 zk rfl #[.int .i64 (rd l0_0 x3_1), .int .i64 1, .int .i64 20] rfl zA ?_; (with_reducible refine (spec_l01In.calls (rd l0_0 x3_1) 1 20 false _ A5.out).mono ?_); rintro e w' ⟨rfl, ⟨nd, rfl⟩⟩; refine ⟨_, rfl, ?_⟩))
         go_ret
         exact ⟨zE, zB⟩
     · rw [if_neg c4] at H
       exact absurd H (by simp)
   · rw [if_neg c3] at H
     have c3b0 : decide (x3_1 < (l0_0.length : Int)) = false := decide_eq_false c3
     clear c3
     by_cases c9 : (l0_0.length : Int) > 0
     · rw [if_pos c9] at H
       have c9b0 : decide (0 < (l0_0.length : Int)) = true := decide_eq_true c9
       have c9b1 : decide (0 < l0_0.length) = true := decide_eq_true (by omega)
       clear c9
       obtain rfl := Option.some.inj H
       have hcz10_0 := zc BK101.out
       have hfz10_0 := blk_frozen BK101.out 0
       go_wp2
       go_ret
       exact ⟨zE, zB⟩
     · rw [if_neg c9] at H
       have c9b0 : decide (0 < (l0_0.length : Int)) = false := decide_eq_false c9
       have c9b1 : decide (0 < l0_0.length) = false := decide_eq_false (by omega)
       clear c9
       obtain rfl := Option.some.inj H
       have hcz11_0 := zc BK101.out
       have hfz11_0 := blk_frozen BK101.out 0
       go_wp2
       go_ret
       exact ⟨zE, zB⟩
end Go.Proofs.Ytgmciimgmnnhmaa.P
end
section
namespace Go.Proofs.Ytgmciimgmnnhmaa.P
open Go.RowKit Go.Proofs.YtgmciimgmnnhmaaW.PrintWords Go.Proofs.YtgmciimgmnnhmaaW.PrintLast Go.Proofs.YtgmciimgmnnhmaaW.PrintMore
attribute [local go_sem] max2_int min2_int max_two min_two max_three min_three max_four min_four   -- for this text's walks alone
set_option linter.unusedVariables false
set_option linter.unusedSimpArgs false
def spec_l01Turns.l0 : Nat → List Int → Int → Int → Option (Bool)
  | 0, _, _, _ => none
  | k + 1, x0, x1, x5 => if x5 < (x0.length : Int) then (if 0 ≤ x5 then ((spec_l01In.f (rd x0 x5) (-1) (wrap64 (x1 - 1))).bind fun t102 => (if t102 = true then (spec_l01Turns.l0 k x0 x1 (wrap64 (x5 + 1))) else (some false))) else (none)) else ((spec_l01In.f (x0.length : Int) 1 120).bind fun t103 => (some t103))
def spec_l01Turns.f (k : Nat) (l0 : List Int) (a1 : Int) : Option (Bool) := spec_l01Turns.l0 k l0 a1 0
theorem spec_l01Turns.mono_l : ∀ k, (∀ y0 y1 y2, LeO (spec_l01Turns.l0 k y0 y1 y2) (spec_l01Turns.l0 (k + 1) y0 y1 y2))
  | 0 => fun _ _ _ r h => by simp [spec_l01Turns.l0] at h
  | k + 1 => by
    have ih0 := spec_l01Turns.mono_l k
    · intro y0 y1 y2
      unfold spec_l01Turns.l0
      repeat' first | (with_reducible exact ih0 _ _ _) | (with_reducible exact LeO.refl _) | (with_reducible exact LeO.none _) | (with_reducible refine LeO.ite ?_ ?_) | (with_reducible refine LeO.bind ?_ (fun _ => ?_)) | exact ih0 _ _ _ | exact LeO.none _ | refine LeO.ite ?_ ?_ | refine LeO.bind ?_ (fun _ => ?_)
theorem spec_l01Turns.mono : ∀ a0 a1 k, LeO (spec_l01Turns.f k a0 a1) (spec_l01Turns.f (k + 1) a0 a1) := by
  intro a0 a1 k
  have ih0 := spec_l01Turns.mono_l k
  unfold spec_l01Turns.f
  repeat' first | (with_reducible exact ih0 _ _ _) | (with_reducible exact LeO.refl _) | (with_reducible exact LeO.none _) | (with_reducible refine LeO.ite ?_ ?_) | (with_reducible refine LeO.bind ?_ (fun _ => ?_)) | exact ih0 _ _ _ | exact LeO.none _ | refine LeO.ite ?_ ?_ | refine LeO.bind ?_ (fun _ => ?_)
set_option maxHeartbeats 8000000 in
set_option maxRecDepth 100000 in
theorem spec_l01Turns.calls (k : Nat) (A0 : Option Addr) (c0 : Nat) (l0 : List Int) (a1 : Int) (r : Bool) (w : World) (hr0 : Kd.C (Kd.int .i64) w A0 l0.length l0) (hc0 : l0.length ≤ c0) (h : spec_l01Turns.f k l0 a1 = some r) :
    Calls Try.prog 64 #[.slice A0 l0.length c0, .int .i64 a1] w fun e w' => e = .returned (.bool r) ∧ Drawn0 w w' := by
 have HR0 := Aside0.mk hr0
 have HC0 := Aside0.mk hc0
 clear hr0 hc0
 have H : (spec_l01Turns.l0 k l0 a1 0) = some r := h
 clear h
 have H' := Aside0.mk H
 clear H
 go_enter Try.func64, Try.ntmps64
 go_wp2
 go_loopg [5] k (fun kq v5 w' => ∃ (x5_1 : Int), v5 = .int .i64 x5_1 ∧ Aside0 (spec_l01Turns.l0 kq l0 a1 x5_1 = some r) ∧ Aside0 (kq ≤ k) ∧ Drawn0 w w')
 case atStart => exact ⟨(0), zF, H', ⟨Nat.le_refl _⟩, by repeat (first | exact Drawn0.refl _ | apply Drawn0.step)⟩
 clear H'
 obtain ⟨x5_1, rfl, HA, HK1, ⟨m1, rfl⟩⟩ := hrel
 cases gk with
 | zero => exact absurd HA.out (by simp [spec_l01Turns.l0])
 | succ k1 =>
   have H := HA.out
   clear HA
   simp only [spec_l01Turns.l0] at H
   by_cases c3 : x5_1 < (l0.length : Int)
   · rw [if_pos c3] at H
     have c3b0 : decide (x5_1 < (l0.length : Int)) = true := decide_eq_true c3
     clear c3
     by_cases c4 : 0 ≤ x5_1
     · rw [if_pos c4] at H
       have c4b0 : decide (0 ≤ x5_1) = true := decide_eq_true c4
       clear c4
       replace H := Option.bind_eq_some_iff.mp H
       obtain ⟨t102, A50, H⟩ := H
       replace H : (if t102 = true then (spec_l01Turns.l0 k1 l0 a1 (wrap64 (x5_1 + 1))) else (some false)) = some r := H
       have A5 := Aside0.mk A50
       clear A50
       by_cases c6 : t102 = true
       · subst c6
         have H1 : (spec_l01Turns.l0 k1 l0 a1 (wrap64 (x5_1 + 1))) = some r := by rw [if_pos rfl] at H; exact H
         clear H
         have H := H1
         clear H1
         have H' := Aside0.mk H
         clear H
         have p101 : 0 ≤ (x5_1 : Int) := zD
         have q101 : x5_1 < (l0.length : Int) := zD
         obtain ⟨ad101, e101, hx101_0⟩ := Kd.at_int HR0.out x5_1 p101 q101
         cases e101
         replace p101 := eq_true p101
         replace q101 := eq_true q101
         go_wp2_with (first | ((with_reducible refine gate_callee (f := 40) rfl ?_); refine goesL_ (some 18) rfl rfl Try.func40 zk rfl #[.int .i64 (rd l0 x5_1), .int .i64 (-1), .int .i64 (wrap64 (a1 - 1))] rfl zA ?_; (with_reducible refine (spec_l01In.calls (rd l0 x5_1) (-1) (wrap64 (a1 - 1)) true _ A5.out).mono ?_); rintro e w' ⟨rfl, ⟨nd, rfl⟩⟩; refine ⟨_, rfl, ?_⟩))
         go_roundg k1
         case measure => have := HK1.out; omega
         case rel => exact ⟨(wrap64 (x5_1 + 1)), zF, H', ⟨by have := HK1.out; omega⟩, by repeat (first | exact Drawn0.refl _ | apply Drawn0.step)⟩
       · replace c6 := Bool.eq_false_iff.mpr c6
         subst c6
         have H1 : (some false) = some r := by rw [if_neg (show ¬ (false = true) by decide)] at H; exact H
         clear H
         have H := H1
         clear H1
         obtain rfl := Option.some.inj H
         have p101 : 0 ≤ (x5_1 : Int) := zD
         have q101 : x5_1 < (l0.length : Int) := zD
         obtain ⟨ad101, e101, hx101_0⟩ := Kd.at_int HR0.out x5_1 p101 q101
         cases e101
         replace p101 := eq_true p101
         replace q101 := eq_true q101
         go_wp2_with (first | ((with_reducible refine gate_callee (f := 40) rfl ?_); refine goesL_ (some 18) rfl rfl Try.func40 zk rfl #[.int .i64 (rd l0 x5_1), .int .i64 (-1), .int .i64 (wrap64 (a1 - 1))] rfl zA ?_; (with_reducible refine (spec_l01In.calls (rd l0 x5_1) (-1) (wrap64 (a1 - 1)) false _ A5.out).mono ?_); rintro e w' ⟨rfl, ⟨nd, rfl⟩⟩; refine ⟨_, rfl, ?_⟩))
         go_ret
         exact ⟨by first | rfl | (simp; done) | (simp [*]; done), by repeat (first | exact Drawn0.refl _ | apply Drawn0.step)⟩
     · rw [if_neg c4] at H
       exact absurd H (by simp)
   · rw [if_neg c3] at H
     have c3b0 : decide (x5_1 < (l0.length : Int)) = false := decide_eq_false c3
     clear c3
     replace H := Option.bind_eq_some_iff.mp H
     obtain ⟨t103, A70, H⟩ := H
     replace H : (some t103) = some r := H
     have A7 := Aside0.mk A70
     clear A70
     obtain rfl := Option.some.inj H
     go_wp2_with (first | ((with_reducible refine gate_callee (f := 40) rfl ?_); refine goesL_ (some 22) rfl rfl Try.func40 zk rfl #[.int .i64 (l0.length : Int), .int .i64 1, .int .i64 120] rfl zA ?_; (with_reducible refine (spec_l01In.calls (l0.length : Int) 1 120 t103 _ A7.out).mono ?_); rintro e w' ⟨rfl, ⟨nd, rfl⟩⟩; refine ⟨_, rfl, ?_⟩))
     go_ret
     exact ⟨by first | rfl | (simp; done) | (simp [*]; done), by repeat (first | exact Drawn0.refl _ | apply Drawn0.step)⟩
end Go.Proofs.Ytgmciimgmnnhmaa.P
end
section
namespace Go.Proofs.Ytgmciimgmnnhmaa.P
open Go.RowKit Go.Proofs.YtgmciimgmnnhmaaW.PrintWords Go.Proofs.YtgmciimgmnnhmaaW.PrintLast Go.Proofs.YtgmciimgmnnhmaaW.PrintMore
attribute [local go_sem] max2_int min2_int max_two min_two max_three min_three max_four min_four   -- for this text's walks alone
set_option linter.unusedVariables false
set_option linter.unusedSimpArgs false
def spec_l06Turns.f (k : Nat) (l0_0 : List Int) (l1 : List Int) : Option (Int) := (spec_l06Is.f k l0_0).bind fun t102 => (if t102 = true then ((spec_l01Turns.f k l1 (l0_0.length : Int)).bind fun t103 => (if t103 = true then (some 0) else (some 2))) else (some 1))
theorem spec_l06Turns.mono : ∀ a0 a1 k, LeO (spec_l06Turns.f k a0 a1) (spec_l06Turns.f (k + 1) a0 a1) := by
  intro a0 a1 k
  unfold spec_l06Turns.f
  repeat' first | (with_reducible exact spec_l01Turns.mono _ _ _) | (with_reducible exact spec_l06Is.mono _ _) | (with_reducible exact LeO.refl _) | (with_reducible exact LeO.none _) | (with_reducible refine LeO.ite ?_ ?_) | (with_reducible refine LeO.bind ?_ (fun _ => ?_)) | exact spec_l01Turns.mono _ _ _ | exact spec_l06Is.mono _ _ | exact LeO.none _ | refine LeO.ite ?_ ?_ | refine LeO.bind ?_ (fun _ => ?_)
set_option maxHeartbeats 8000000 in
set_option maxRecDepth 100000 in
theorem spec_l06Turns.calls (k : Nat) (A0_0 : Option Addr) (c0_0 : Nat) (l0_0 : List Int) (A1 : Option Addr) (c1 : Nat) (l1 : List Int) (r : Int) (w : World) (hr0_0 : Kd.C (Kd.int .i64) w A0_0 l0_0.length l0_0) (hc0_0 : l0_0.length ≤ c0_0) (hr1 : Kd.C (Kd.int .i64) w A1 l1.length l1) (hc1 : l1.length ≤ c1) (h : spec_l06Turns.f k l0_0 l1 = some r) :
    Calls Try.prog 31 #[.agg #[.slice A0_0 l0_0.length c0_0], .slice A1 l1.length c1] w fun e w' => e = .returned (.int .i64 r) ∧ Below w.heap.size w w' := by
 have hu26 := Try.underlying26
 have HR0_0 := Aside0.mk hr0_0
 have HC0_0 := Aside0.mk hc0_0
 clear hr0_0 hc0_0
 have HR1 := Aside0.mk hr1
 have HC1 := Aside0.mk hc1
 clear hr1 hc1
 have HB := Aside0.mk (Below.refl w.heap.size w)
 have H : ((spec_l06Is.f k l0_0).bind fun t102 => (if t102 = true then ((spec_l01Turns.f k l1 (l0_0.length : Int)).bind fun t103 => (if t103 = true then (some 0) else (some 2))) else (some 1))) = some r := h
 clear h
 replace H := Option.bind_eq_some_iff.mp H
 obtain ⟨t102, A30, H⟩ := H
 replace H : (if t102 = true then ((spec_l01Turns.f k l1 (l0_0.length : Int)).bind fun t103 => (if t103 = true then (some 0) else (some 2))) else (some 1)) = some r := H
 have A3 := Aside0.mk A30
 clear A30
 by_cases c4 : t102 = true
 ·
  subst c4
  have H1 : ((spec_l01Turns.f k l1 (l0_0.length : Int)).bind fun t103 => (if t103 = true then (some 0) else (some 2))) = some r := by rw [if_pos rfl] at H; exact H
  clear H
  have H := H1
  clear H1
  replace H := Option.bind_eq_some_iff.mp H
  obtain ⟨t103, A50, H⟩ := H
  replace H : (if t103 = true then (some 0) else (some 2)) = some r := H
  have A5 := Aside0.mk A50
  clear A50
  by_cases c6 : t103 = true
  ·
   subst c6
   have H1 : (some 0) = some r := by rw [if_pos rfl] at H; exact H
   clear H
   have H := H1
   clear H1
   obtain rfl := Option.some.inj H
   go_enter Try.func31, Try.ntmps31
   go_wp2_with (first | ((with_reducible refine gate_dst (N := 2) rfl ?_); refine box_event zr (N := 2) zr (cs := #[.slice A0_0 l0_0.length c0_0]) (t := 26) zg ?_; intro gb101 hg w7 hbox hb; have n_ := y4 (below_step (zB) hb) (hbox) ((zS hg : w.heap.size ≤ gb101)) ((zS hg : w.heap.size ≤ gb101)); clear HB; obtain ⟨HB, BK101, GW101, GE101⟩ := n_; clear hb hbox hg; have hcz8_0 := zc BK101.out; have hfz8_0 := blk_frozen BK101.out 0) | ((with_reducible refine gate_callee (f := 52) rfl ?_); refine goesL_ (some 7) rfl rfl Try.func52 zk rfl #[.agg #[.slice A0_0 l0_0.length c0_0]] rfl zA ?_; (with_reducible refine (spec_l06Is.calls k _ _ l0_0 true _ ?side1 ?side2 A3.out).mono ?_); (case side1 => exact zC (Kd.C_below HR0_0.out HB.out)); (case side2 => exact HC0_0.out); rintro e w9 ⟨rfl, hb⟩; refine ⟨_, rfl, ?_⟩; have n_ := y2 (zb BK101.out hb) (below_step (zB) hb); clear BK101 HB; obtain ⟨BK101, HB⟩ := n_; (try clear hb); (try clear hb2); (try clear hk); (try clear hi); have hcz10_0 := zc BK101.out; have hfz10_0 := blk_frozen BK101.out 0) | ((with_reducible refine gate_callee (f := 64) rfl ?_); refine goesL_ (some 14) rfl rfl Try.func64 zk rfl #[.slice A1 l1.length c1, .int .i64 (l0_0.length : Int)] rfl zA ?_; (with_reducible refine (spec_l01Turns.calls k _ _ l1 (l0_0.length : Int) true _ ?side1 ?side2 A5.out).mono ?_); (case side1 => exact zC (Kd.C_below HR1.out HB.out)); (case side2 => exact HC1.out); rintro e w' ⟨rfl, ⟨nd, rfl⟩⟩; refine ⟨_, rfl, ?_⟩))
   go_ret
   exact ⟨zE, zB⟩
  replace c6 := Bool.eq_false_iff.mpr c6
  subst c6
  have H1 : (some 2) = some r := by rw [if_neg (show ¬ (false = true) by decide)] at H; exact H
  clear H
  have H := H1
  clear H1
  obtain rfl := Option.some.inj H
  go_enter Try.func31, Try.ntmps31
  go_wp2_with (first | ((with_reducible refine gate_dst (N := 2) rfl ?_); refine box_event zr (N := 2) zr (cs := #[.slice A0_0 l0_0.length c0_0]) (t := 26) zg ?_; intro gb101 hg w11 hbox hb; have n_ := y4 (below_step (zB) hb) (hbox) ((zS hg : w.heap.size ≤ gb101)) ((zS hg : w.heap.size ≤ gb101)); clear HB; obtain ⟨HB, BK101, GW101, GE101⟩ := n_; clear hb hbox hg; have hcz12_0 := zc BK101.out; have hfz12_0 := blk_frozen BK101.out 0) | ((with_reducible refine gate_callee (f := 52) rfl ?_); refine goesL_ (some 7) rfl rfl Try.func52 zk rfl #[.agg #[.slice A0_0 l0_0.length c0_0]] rfl zA ?_; (with_reducible refine (spec_l06Is.calls k _ _ l0_0 true _ ?side1 ?side2 A3.out).mono ?_); (case side1 => exact zC (Kd.C_below HR0_0.out HB.out)); (case side2 => exact HC0_0.out); rintro e w13 ⟨rfl, hb⟩; refine ⟨_, rfl, ?_⟩; have n_ := y2 (zb BK101.out hb) (below_step (zB) hb); clear BK101 HB; obtain ⟨BK101, HB⟩ := n_; (try clear hb); (try clear hb2); (try clear hk); (try clear hi); have hcz14_0 := zc BK101.out; have hfz14_0 := blk_frozen BK101.out 0) | ((with_reducible refine gate_callee (f := 64) rfl ?_); refine goesL_ (some 14) rfl rfl Try.func64 zk rfl #[.slice A1 l1.length c1, .int .i64 (l0_0.length : Int)] rfl zA ?_; (with_reducible refine (spec_l01Turns.calls k _ _ l1 (l0_0.length : Int) false _ ?side1 ?side2 A5.out).mono ?_); (case side1 => exact zC (Kd.C_below HR1.out HB.out)); (case side2 => exact HC1.out); rintro e w' ⟨rfl, ⟨nd, rfl⟩⟩; refine ⟨_, rfl, ?_⟩))
  go_ret
  exact ⟨zE, zB⟩
 replace c4 := Bool.eq_false_iff.mpr c4
 subst c4
 have H1 : (some 1) = some r := by rw [if_neg (show ¬ (false = true) by decide)] at H; exact H
 clear H
 have H := H1
 clear H1
 obtain rfl := Option.some.inj H
 go_enter Try.func31, Try.ntmps31
 go_wp2_with (first | ((with_reducible refine gate_dst (N := 2) rfl ?_); refine box_event zr (N := 2) zr (cs := #[.slice A0_0 l0_0.length c0_0]) (t := 26) zg ?_; intro gb101 hg w15 hbox hb; have n_ := y4 (below_step (zB) hb) (hbox) ((zS hg : w.heap.size ≤ gb101)) ((zS hg : w.heap.size ≤ gb101)); clear HB; obtain ⟨HB, BK101, GW101, GE101⟩ := n_; clear hb hbox hg; have hcz16_0 := zc BK101.out; have hfz16_0 := blk_frozen BK101.out 0) | ((with_reducible refine gate_callee (f := 52) rfl ?_); refine goesL_ (some 7) rfl rfl Try.func52 zk rfl #[.agg #[.slice A0_0 l0_0.length c0_0]] rfl zA ?_; (with_reducible refine (spec_l06Is.calls k _ _ l0_0 false _ ?side1 ?side2 A3.out).mono ?_); (case side1 => exact zC (Kd.C_below HR0_0.out HB.out)); (case side2 => exact HC0_0.out); rintro e w17 ⟨rfl, hb⟩; refine ⟨_, rfl, ?_⟩; have n_ := y2 (zb BK101.out hb) (below_step (zB) hb); clear BK101 HB; obtain ⟨BK101, HB⟩ := n_; (try clear hb); (try clear hb2); (try clear hk); (try clear hi)))
 go_ret
 exact ⟨zE, zB⟩
end Go.Proofs.Ytgmciimgmnnhmaa.P
end
section
namespace Go.Proofs.Ytgmciimgmnnhmaa.P
open Go.RowKit Go.Proofs.YtgmciimgmnnhmaaW.PrintWords Go.Proofs.YtgmciimgmnnhmaaW.PrintLast Go.Proofs.YtgmciimgmnnhmaaW.PrintMore
attribute [local go_sem] max2_int min2_int max_two min_two max_three min_three max_four min_four   -- for this text's walks alone
set_option linter.unusedVariables false
set_option linter.unusedSimpArgs false
def spec_l01Waits.l0 : Nat → List Int → Int → List Int → Int → Int → Int → Option (List Int)
  | 0, _, _, _, _, _, _ => none
  | k + 1, x0, x1, x5, x6, x7, x8 => if x8 < (x0.length : Int) then (if 0 ≤ x8 then (if (rd x0 x8) = x1 then (if x6 < 0 then (spec_l01Waits.l0 k x0 x1 x5 x8 x8 (wrap64 (x8 + 1))) else (if x5.length < 17592186044416 then (spec_l01Waits.l0 k x0 x1 (x5 ++ [wrap64 (x8 - x7)]) x6 x8 (wrap64 (x8 + 1))) else (none))) else (spec_l01Waits.l0 k x0 x1 x5 x6 x7 (wrap64 (x8 + 1)))) else (none)) else (if x6 ≥ 0 then (if x5.length < 17592186044416 then (some (x5 ++ [wrap64 ((wrap64 ((x0.length : Int) - x7)) + x6)])) else (none)) else (some x5))
def spec_l01Waits.f (k : Nat) (l0 : List Int) (a1 : Int) : Option (List Int) := spec_l01Waits.l0 k l0 a1 (([] : List Int)) (-1) (-1) 0
theorem spec_l01Waits.mono_l : ∀ k, (∀ y0 y1 y2 y3 y4 y5, LeO (spec_l01Waits.l0 k y0 y1 y2 y3 y4 y5) (spec_l01Waits.l0 (k + 1) y0 y1 y2 y3 y4 y5))
  | 0 => fun _ _ _ _ _ _ r h => by simp [spec_l01Waits.l0] at h
  | k + 1 => by
    have ih0 := spec_l01Waits.mono_l k
    · intro y0 y1 y2 y3 y4 y5
      unfold spec_l01Waits.l0
      repeat' first | (with_reducible exact ih0 _ _ _ _ _ _) | (with_reducible exact LeO.refl _) | (with_reducible exact LeO.none _) | (with_reducible refine LeO.ite ?_ ?_) | (with_reducible refine LeO.bind ?_ (fun _ => ?_)) | exact ih0 _ _ _ _ _ _ | exact LeO.none _ | refine LeO.ite ?_ ?_ | refine LeO.bind ?_ (fun _ => ?_)
theorem spec_l01Waits.mono : ∀ a0 a1 k, LeO (spec_l01Waits.f k a0 a1) (spec_l01Waits.f (k + 1) a0 a1) := by
  intro a0 a1 k
  have ih0 := spec_l01Waits.mono_l k
  unfold spec_l01Waits.f
  repeat' first | (with_reducible exact ih0 _ _ _ _ _ _) | (with_reducible exact LeO.refl _) | (with_reducible exact LeO.none _) | (with_reducible refine LeO.ite ?_ ?_) | (with_reducible refine LeO.bind ?_ (fun _ => ?_)) | exact ih0 _ _ _ _ _ _ | exact LeO.none _ | refine LeO.ite ?_ ?_ | refine LeO.bind ?_ (fun _ => ?_)
set_option maxHeartbeats 8000000 in
set_option maxRecDepth 100000 in
theorem spec_l01Waits.calls (k : Nat) (A0 : Option Addr) (c0 : Nat) (l0 : List Int) (a1 : Int) (r : List Int) (w : World) (hr0 : Kd.C (Kd.int .i64) w A0 l0.length l0) (hc0 : l0.length ≤ c0) (h : spec_l01Waits.f k l0 a1 = some r) :
    Calls Try.prog 65 #[.slice A0 l0.length c0, .int .i64 a1] w fun e w' => ∃ v0_ : Value, e = .returned (v0_) ∧ Kd.R (Kd.int .i64) 2 w' w.heap.size (fun _ => True) v0_ r ∧ Below w.heap.size w w' := by
 have HR0 := Aside0.mk hr0
 have HC0 := Aside0.mk hc0
 clear hr0 hc0
 have HB := Aside0.mk (Below.refl w.heap.size w)
 have H : (spec_l01Waits.l0 k l0 a1 (([] : List Int)) (-1) (-1) 0) = some r := h
 clear h
 obtain ⟨y101, hy101⟩ : ∃ y_ : List Int, y_ = (([] : List Int)) := ⟨_, rfl⟩
 replace H : (spec_l01Waits.l0 k l0 a1 y101 (-1) (-1) 0) = some r := zH hy101
 have Ny101 := Aside0.mk hy101
 clear hy101
 have H' := Aside0.mk H
 clear H
 go_enter Try.func65, Try.ntmps65
 go_wp2_with (first | ((with_reducible refine gate_dst (N := 9) rfl ?_); refine Kd.R_lit (Kd.int .i64) _ 2 ?hg (N := 9) ?hd (xs := ([] : List Int)) (inner := []) (ok := fun _ => True) (okp := fun _ => True) ?hr ?hp (fun _ hk => hk) trivial (Below.refl _ _) (Nat.le_refl _) (by simp) ?_; (case hd => rfl); (case hg => rfl); (case hr => first | (go_simp; done) | (go_simp; rfl)); (case hp => exact (Reps.none _ _)); intro v102 w3 ho4 hb hg_ hnew_; clear hg_ hnew_; (first | rw [← Ny101.out] at ho4 | (simp only [Int.reduceToNat] at ho4; rw [← Ny101.out] at ho4)); have n_ := y2 (Kd.R_lower ho4 (below_size (zB))) (below_step (zB) hb); clear HB; obtain ⟨HO103, HB⟩ := n_; clear hb ho4))
 go_loopg [5, 6, 7, 8] k (fun kq v5 v6 v7 v8 w' => ∃ (x5_1 : List Int) (x6_1 : Int) (x7_1 : Int) (x8_1 : Int), v6 = .int .i64 x6_1 ∧ v7 = .int .i64 x7_1 ∧ v8 = .int .i64 x8_1 ∧ Aside0 (spec_l01Waits.l0 kq l0 a1 x5_1 x6_1 x7_1 x8_1 = some r) ∧ Aside0 (kq ≤ k) ∧ Aside0 (Kd.R (Kd.int .i64) 2 w' w.heap.size (fun _ => True) v5 x5_1) ∧ Aside0 (Below w.heap.size w w'))
 case atStart => exact ⟨(y101), ((-1)), ((-1)), (0), zF, zF, zF, H', ⟨Nat.le_refl _⟩, ⟨zR HO103.out⟩, ⟨zB⟩⟩
 clear H'
 obtain ⟨x5_1, x6_1, x7_1, x8_1, rfl, rfl, rfl, HA, HK1, HO_5, HB⟩ := hrel
 cases gk with
 | zero => exact absurd HA.out (by simp [spec_l01Waits.l0])
 | succ k1 =>
   have H := HA.out
   clear HA
   simp only [spec_l01Waits.l0] at H
   by_cases c5 : x8_1 < (l0.length : Int)
   · rw [if_pos c5] at H
     have c5b0 : decide (x8_1 < (l0.length : Int)) = true := decide_eq_true c5
     clear c5
     by_cases c6 : 0 ≤ x8_1
     · rw [if_pos c6] at H
       have c6b0 : decide (0 ≤ x8_1) = true := decide_eq_true c6
       clear c6
       by_cases c7 : (rd l0 x8_1) = a1
       · rw [if_pos c7] at H
         have c7b0 : ((rd l0 x8_1) == a1) = true := beq_iff_eq.mpr c7
         have c7b1 : ((rd l0 x8_1) != a1) = false := bne_eq_false_iff_eq.mpr c7
         clear c7
         by_cases c8 : x6_1 < 0
         · rw [if_pos c8] at H
           have c8b0 : decide (x6_1 < 0) = true := decide_eq_true c8
           clear c8
           have H' := Aside0.mk H
           clear H
           have p107 : 0 ≤ (x8_1 : Int) := zD
           have q107 : x8_1 < (l0.length : Int) := zD
           obtain ⟨ad107, e107, hx107_0⟩ := Kd.at_int HR0.out x8_1 p107 q107
           cases e107
           replace hx107_0 := (HB.out.cell (World.block_lt_of_cell? w _ hx107_0)).trans hx107_0
           replace p107 := eq_true p107
           replace q107 := eq_true q107
           go_wp2
           go_roundg k1
           case measure => have := HK1.out; omega
           case rel => exact ⟨(x5_1), (x8_1), (x8_1), (wrap64 (x8_1 + 1)), zF, zF, zF, H', ⟨by have := HK1.out; omega⟩, ⟨zR HO_5.out⟩, ⟨zB⟩⟩
         · rw [if_neg c8] at H
           have c8b0 : decide (x6_1 < 0) = false := decide_eq_false c8
           clear c8
           by_cases c9 : x5_1.length < 17592186044416
           · rw [if_pos c9] at H
             have LMc9 := Aside0.mk c9
             clear c9
             obtain ⟨y108, hy108⟩ : ∃ y_ : List Int, y_ = (x5_1 ++ [wrap64 (x8_1 - x7_1)]) := ⟨_, rfl⟩
             replace H : (spec_l01Waits.l0 k1 l0 a1 y108 x6_1 x8_1 (wrap64 (x8_1 + 1))) = some r := zH hy108
             have Ny108 := Aside0.mk hy108
             clear hy108
             have H' := Aside0.mk H
             clear H
             have p107 : 0 ≤ (x8_1 : Int) := zD
             have q107 : x8_1 < (l0.length : Int) := zD
             obtain ⟨ad107, e107, hx107_0⟩ := Kd.at_int HR0.out x8_1 p107 q107
             cases e107
             replace hx107_0 := (HB.out.cell (World.block_lt_of_cell? w _ hx107_0)).trans hx107_0
             replace p107 := eq_true p107
             replace q107 := eq_true q107
             go_wp2_with (first | ((with_reducible refine gate_builtin (b := .append) (xs := #[.tmp 25, .tmp 29]) rfl ?_); at_builtin; refine Kd.R_append (Kd.int .i64) (w0 := w) w.heap.size rfl (.tmp 25) (.tmp 29) 24 2 (.int .i64 0) 8 rfl Try.underlying24 info2 rfl (by decide) (by omega) u5 x5_1 (wrap64 (x8_1 - x7_1)) [.int .i64 (wrap64 (x8_1 - x7_1))] (fun _ => True) (fun _ => False) rfl rfl ?aP (fun _ hk => hk.elim) ?aF ?aO ?aB ?aS ?aL ?_; (case aP => exact rfl); (case aB => exact (zB)); (case aF => exact (fun _ _ => trivial)); (case aO => exact (zR HO_5.out)); (case aS => exact (below_size (zB))); (case aL => have := LMc9.out; omega); intro v109 w10 ho hb hg hat; rw [← Ny108.out] at ho; have n_ := y2 (hb) (ho); clear HB HO_5; obtain ⟨HB, HO110⟩ := n_; clear ho hb hg hat))
             go_roundg k1
             case measure => have := HK1.out; omega
             case rel => exact ⟨(y108), (x6_1), (x8_1), (wrap64 (x8_1 + 1)), zF, zF, zF, H', ⟨by have := HK1.out; omega⟩, ⟨zR HO110.out⟩, ⟨zB⟩⟩
           · rw [if_neg c9] at H
             exact absurd H (by simp)
       · rw [if_neg c7] at H
         have c7b0 : ((rd l0 x8_1) == a1) = false := beq_eq_false_iff_ne.mpr c7
         have c7b1 : ((rd l0 x8_1) != a1) = true := bne_iff_ne.mpr c7
         have H' := Aside0.mk H
         clear H
         have p107 : 0 ≤ (x8_1 : Int) := zD
         have q107 : x8_1 < (l0.length : Int) := zD
         obtain ⟨ad107, e107, hx107_0⟩ := Kd.at_int HR0.out x8_1 p107 q107
         cases e107
         replace hx107_0 := (HB.out.cell (World.block_lt_of_cell? w _ hx107_0)).trans hx107_0
         replace p107 := eq_true p107
         replace q107 := eq_true q107
         go_wp2
         go_roundg k1
         case measure => have := HK1.out; omega
         case rel => exact ⟨(x5_1), (x6_1), (x7_1), (wrap64 (x8_1 + 1)), zF, zF, zF, H', ⟨by have := HK1.out; omega⟩, ⟨zR HO_5.out⟩, ⟨zB⟩⟩
     · rw [if_neg c6] at H
       exact absurd H (by simp)
   · rw [if_neg c5] at H
     have c5b0 : decide (x8_1 < (l0.length : Int)) = false := decide_eq_false c5
     clear c5
     by_cases c11 : x6_1 ≥ 0
     · rw [if_pos c11] at H
       have c11b0 : decide (0 ≤ x6_1) = true := decide_eq_true c11
       clear c11
       by_cases c12 : x5_1.length < 17592186044416
       · rw [if_pos c12] at H
         have LMc12 := Aside0.mk c12
         clear c12
         obtain ⟨y104, hy104⟩ : ∃ y_ : List Int, y_ = (x5_1 ++ [wrap64 ((wrap64 ((l0.length : Int) - x7_1)) + x6_1)]) := ⟨_, rfl⟩
         replace H : (some y104) = some r := zH hy104
         have Ny104 := Aside0.mk hy104
         clear hy104
         obtain rfl := Option.some.inj H
         go_wp2_with (first | ((with_reducible refine gate_builtin (b := .append) (xs := #[.tmp 34, .tmp 41]) rfl ?_); at_builtin; refine Kd.R_append (Kd.int .i64) (w0 := w) w.heap.size rfl (.tmp 34) (.tmp 41) 24 2 (.int .i64 0) 8 rfl Try.underlying24 info2 rfl (by decide) (by omega) u5 x5_1 (wrap64 ((wrap64 ((l0.length : Int) - x7_1)) + x6_1)) [.int .i64 (wrap64 ((wrap64 ((l0.length : Int) - x7_1)) + x6_1))] (fun _ => True) (fun _ => False) rfl rfl ?aP (fun _ hk => hk.elim) ?aF ?aO ?aB ?aS ?aL ?_; (case aP => exact rfl); (case aB => exact (zB)); (case aF => exact (fun _ _ => trivial)); (case aO => exact (zR HO_5.out)); (case aS => exact (below_size (zB))); (case aL => have := LMc12.out; omega); intro v105 w13 ho hb hg hat; rw [← Ny104.out] at ho; have n_ := y2 (hb) (ho); clear HB HO_5; obtain ⟨HB, HO106⟩ := n_; clear ho hb hg hat))
         go_ret
         exact ⟨_, zE, zR HO106.out, zB⟩
       · rw [if_neg c12] at H
         exact absurd H (by simp)
     · rw [if_neg c11] at H
       have c11b0 : decide (0 ≤ x6_1) = false := decide_eq_false c11
       clear c11
       obtain rfl := Option.some.inj H
       go_wp2
       go_ret
       exact ⟨_, zE, zR HO_5.out, zB⟩
end Go.Proofs.Ytgmciimgmnnhmaa.P
end
section
namespace Go.Proofs.Ytgmciimgmnnhmaa.P
open Go.RowKit Go.Proofs.YtgmciimgmnnhmaaW.PrintWords Go.Proofs.YtgmciimgmnnhmaaW.PrintLast Go.Proofs.YtgmciimgmnnhmaaW.PrintMore
attribute [local go_sem] max2_int min2_int max_two min_two max_three min_three max_four min_four   -- for this text's walks alone
set_option linter.unusedVariables false
set_option linter.unusedSimpArgs false
def spec_l01Greatest.l0 : Nat → List Int → Int → Int → Option (Int)
  | 0, _, _, _ => none
  | k + 1, x5, x6, x7 => if x7 < (x5.length : Int) then (if 0 ≤ x7 then (spec_l01Greatest.l0 k x5 (mx x6 (rd x5 x7)) (wrap64 (x7 + 1))) else (none)) else (some x6)
def spec_l01Greatest.f (k : Nat) (l0 : List Int) (a1 : Int) : Option (Int) := (spec_l01Waits.f k l0 a1).bind fun t101 => (spec_l01Greatest.l0 k t101 0 0)
theorem spec_l01Greatest.mono_l : ∀ k, (∀ y0 y1 y2, LeO (spec_l01Greatest.l0 k y0 y1 y2) (spec_l01Greatest.l0 (k + 1) y0 y1 y2))
  | 0 => fun _ _ _ r h => by simp [spec_l01Greatest.l0] at h
  | k + 1 => by
    have ih0 := spec_l01Greatest.mono_l k
    · intro y0 y1 y2
      unfold spec_l01Greatest.l0
      repeat' first | (with_reducible exact ih0 _ _ _) | (with_reducible exact spec_l01Waits.mono _ _ _) | (with_reducible exact LeO.refl _) | (with_reducible exact LeO.none _) | (with_reducible refine LeO.ite ?_ ?_) | (with_reducible refine LeO.bind ?_ (fun _ => ?_)) | exact ih0 _ _ _ | exact spec_l01Waits.mono _ _ _ | exact LeO.none _ | refine LeO.ite ?_ ?_ | refine LeO.bind ?_ (fun _ => ?_)
theorem spec_l01Greatest.mono : ∀ a0 a1 k, LeO (spec_l01Greatest.f k a0 a1) (spec_l01Greatest.f (k + 1) a0 a1) := by
  intro a0 a1 k
  have ih0 := spec_l01Greatest.mono_l k
  unfold spec_l01Greatest.f
  repeat' first | (with_reducible exact ih0 _ _ _) | (with_reducible exact spec_l01Waits.mono _ _ _) | (with_reducible exact LeO.refl _) | (with_reducible exact LeO.none _) | (with_reducible refine LeO.ite ?_ ?_) | (with_reducible refine LeO.bind ?_ (fun _ => ?_)) | exact ih0 _ _ _ | exact spec_l01Waits.mono _ _ _ | exact LeO.none _ | refine LeO.ite ?_ ?_ | refine LeO.bind ?_ (fun _ => ?_)
end Go.Proofs.Ytgmciimgmnnhmaa.P
end
