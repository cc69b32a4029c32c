/- Lessened gaps are at most the gaps, harmonic turns serve their tasks, and turns by powers and by one number serve. -/
import Derived.Test.YtgbapmmfhdphmaaCFnHarmonic6
section
namespace Go.Proofs.Ytgbapmmfhdphmaa.P
open Go.RowKit Go.Proofs.YtgbapmmfhdphmaaW.PrintWords Go.Proofs.YtgbapmmfhdphmaaW.PrintLast Go.Proofs.YtgbapmmfhdphmaaW.PrintMore
attribute [local go_sem] max2_int min2_int max_two min_two max_three min_three max_four min_four   -- for this text's walks alone
set_option linter.unusedVariables false
set_option linter.unusedSimpArgs false
set_option maxHeartbeats 8000000 in
set_option maxRecDepth 100000 in
theorem spec_l03Wide.calls (k : Nat) (g : Nat) (s0_0 : List Int) (s0_1 : Int) (s0_2 : Int) (r1 : List Int) (r2 : Int) (r3 : Int) (w0 w : World) (hI : IsS65 w0 w g s0_0 s0_1 s0_2) (hB : Below w0.heap.size w0 w) (h : spec_l03Wide.f k s0_0 s0_1 s0_2 = some (r1, r2, r3)) :
    Calls Try.prog 43 #[.pointer (some ⟨g, 0, none⟩)] w fun e w' => ∃ v0_ : Value, e = .returned (.agg #[v0_]) ∧ Kd.R (Kd.int .i64) 2 w' w.heap.size (fun _ => True) v0_ r1 ∧ IsS65 w0 w' g s0_0 r2 r3 ∧ Below w0.heap.size w0 w' ∧ KeepBut w w' g none := by
 have hu26 := Try.underlying26
 have HI0 := Aside0.mk hI
 have HK := Aside0.mk (KeepBut.refl w g none)
 have HL := Aside0.mk hB.size
 clear hI
 have HW0 := Aside0.mk hB.size
 have HB := Aside0.mk hB
 clear hB
 have H : ((spec_l01Pick.f s0_0 s0_1 s0_2 (([3, 5, 8] : List Int))).bind fun bt109 => ((spec_l01Next.f s0_0 bt109.2.1 bt109.2.2 bt109.1).bind fun bt112 => (spec_l03Wide.l0 k (wrap64 (1 + bt112.1)) 0 s0_0 bt112.2.1 bt112.2.2 (([] : List Int))))) = some (r1, r2, r3) := h
 clear h
 obtain ⟨y102, hy102⟩ : ∃ y_ : List Int, y_ = (([] : List Int)) := ⟨_, rfl⟩
 replace H : ((spec_l01Pick.f s0_0 s0_1 s0_2 (([3, 5, 8] : List Int))).bind fun bt109 => ((spec_l01Next.f s0_0 bt109.2.1 bt109.2.2 bt109.1).bind fun bt112 => (spec_l03Wide.l0 k (wrap64 (1 + bt112.1)) 0 s0_0 bt112.2.1 bt112.2.2 y102))) = some (r1, r2, r3) := zH hy102
 have Ny102 := Aside0.mk hy102
 clear hy102
 obtain ⟨y106, hy106⟩ : ∃ y_ : List Int, y_ = (([3, 5, 8] : List Int)) := ⟨_, rfl⟩
 replace H : ((spec_l01Pick.f s0_0 s0_1 s0_2 y106).bind fun bt109 => ((spec_l01Next.f s0_0 bt109.2.1 bt109.2.2 bt109.1).bind fun bt112 => (spec_l03Wide.l0 k (wrap64 (1 + bt112.1)) 0 s0_0 bt112.2.1 bt112.2.2 y102))) = some (r1, r2, r3) := zH hy106
 have Ny106 := Aside0.mk hy106
 clear hy106
 replace H := Option.bind_eq_some_iff.mp H
 obtain ⟨⟨t109, t110, t111⟩, A20, H⟩ := H
 replace H : ((spec_l01Next.f s0_0 t110 t111 t109).bind fun bt112 => (spec_l03Wide.l0 k (wrap64 (1 + bt112.1)) 0 s0_0 bt112.2.1 bt112.2.2 y102)) = some (r1, r2, r3) := H
 have A2 := Aside0.mk A20
 clear A20
 replace H := Option.bind_eq_some_iff.mp H
 obtain ⟨⟨t112, t113, t114⟩, A30, H⟩ := H
 replace H : (spec_l03Wide.l0 k (wrap64 (1 + t112)) 0 s0_0 t113 t114 y102) = some (r1, r2, r3) := H
 have A3 := Aside0.mk A30
 clear A30
 have H' := Aside0.mk H
 clear H
 go_enter Try.func43, Try.ntmps43
 go_wp2_with (first | ((with_reducible refine gate_dst (N := 2) rfl ?_); refine box_event zr (N := 2) zr (cs := #[.slice none 0 0]) (t := 26) zg ?_; intro gb101 hg w4 hbox hb; have n_ := y8 (IsS65.below (zI) hb) (KeepBut.trans (zK) (KeepBut.of_below hb g none) (.inl rfl)) (below_step (zB) hb) (hbox) ((by rw [hg]; exact (keep_size (w := w) (g := g) (row := none) (zK)) : w.heap.size ≤ gb101)) ((Nat.le_trans HW0.out (by rw [hg]; exact (keep_size (w := w) (g := g) (row := none) (zK)) : w.heap.size ≤ gb101) : w0.heap.size ≤ gb101)) ((by rw [hg]; exact Nat.ne_of_lt (IsS65.lt (show IsS65 w0 _ g s0_0 s0_1 s0_2 from zI)) : g ≠ gb101)) ((by rw [hg]; exact Nat.ne_of_gt (IsS65.lt (show IsS65 w0 _ g s0_0 s0_1 s0_2 from zI)) : gb101 ≠ g)); clear HI0 HK HB; obtain ⟨HI0, HK, HB, BK101, GW101, GE101, NB0_101, NB101_0⟩ := n_; clear hb hbox hg) | ((with_reducible refine gate_dst (N := 6) rfl ?_); refine Kd.R_lit (Kd.int .i64) _ 2 ?hg (N := 6) ?hd (xs := ([] : List Int)) (inner := []) (ok := fun _ => True) (okp := fun _ => True) ?hr ?hp (fun _ hk => hk) trivial (Below.refl _ _) (Nat.le_refl _) (by simp) ?_; (case hd => rfl); (case hg => rfl); (case hr => first | (go_simp; done) | (go_simp; rfl)); (case hp => exact (Reps.none _ _)); intro v103 w5 ho6 hb hg_ hnew_; clear hg_ hnew_; (first | rw [← Ny102.out] at ho6 | (simp only [Int.reduceToNat] at ho6; rw [← Ny102.out] at ho6)); have n_ := y5 (Kd.R_lower ho6 (keep_size (w := w) (g := g) (row := none) (zK))) (IsS65.below (zI) hb) (zb BK101.out hb) (KeepBut.trans (zK) (KeepBut.of_below hb g none) (.inl rfl)) (below_step (zB) hb); clear HI0 BK101 HK HB; obtain ⟨HO104, HI0, BK101, HK, HB⟩ := n_; clear hb ho6; obtain ⟨Ao7, co7, eo7⟩ := Kd.R_slice HO104.out; subst eo7) | ((with_reducible refine gate_dst (N := 3) rfl ?_); refine box_event zr (N := 3) zr (cs := #[.slice none 0 0]) (t := 26) zg ?_; intro gb105 hg w8 hbox hb; have n_ := y12 (Kd.R_below (zR HO104.out) hb) (IsS65.below (zI) hb) (zb BK101.out hb) (KeepBut.trans (zK) (KeepBut.of_below hb g none) (.inl rfl)) (below_step (zB) hb) (hbox) ((by rw [hg]; exact (keep_size (w := w) (g := g) (row := none) (zK)) : w.heap.size ≤ gb105)) ((Nat.le_trans HW0.out (by rw [hg]; exact (keep_size (w := w) (g := g) (row := none) (zK)) : w.heap.size ≤ gb105) : w0.heap.size ≤ gb105)) ((zL hg BK101.out : gb101 ≠ gb105)) ((zM hg BK101.out : gb105 ≠ gb101)) ((by rw [hg]; exact Nat.ne_of_lt (IsS65.lt (show IsS65 w0 _ g s0_0 s0_1 s0_2 from zI)) : g ≠ gb105)) ((by rw [hg]; exact Nat.ne_of_gt (IsS65.lt (show IsS65 w0 _ g s0_0 s0_1 s0_2 from zI)) : gb105 ≠ g)); clear HO104 HI0 BK101 HK HB; obtain ⟨HO104, HI0, BK101, HK, HB, BK105, GW105, GE105, NB101_105, NB105_101, NB0_105, NB105_0⟩ := n_; clear hb hbox hg; have hnb9 := NB105_101.out; have hnc9 := NB101_105.out; have hnb10 := NB105_0.out; have hnc10 := NB0_105.out; have hcz11_0 := zc BK105.out; have hfz11_0 := blk_frozen BK105.out 0) | ((with_reducible refine gate_dst (N := 10) rfl ?_); refine Kd.R_lit (Kd.int .i64) _ 2 ?hg (N := 10) ?hd (xs := ([3, 5, 8] : List Int)) (inner := [.int .i64 3, .int .i64 5, .int .i64 8]) (ok := fun _ => True) (okp := fun _ => True) ?hr ?hp (fun _ hk => hk) trivial (Below.refl _ _) (Nat.le_refl _) (by simp) ?_; (case hd => rfl); (case hg => rfl); (case hr => first | (go_simp; done) | (go_simp; rfl)); (case hp => exact (Reps.one (show Kd.M (Kd.int .i64) _ _ _ 3 [.int .i64 3] from rfl) (Reps.one (show Kd.M (Kd.int .i64) _ _ _ 5 [.int .i64 5] from rfl) (Reps.one (show Kd.M (Kd.int .i64) _ _ _ 8 [.int .i64 8] from rfl) (Reps.none _ _))))); intro v107 w12 ho13 hb hg_ hnew_; clear hg_ hnew_; (first | rw [← Ny106.out] at ho13 | (simp only [Int.reduceToNat] at ho13; rw [← Ny106.out] at ho13)); have n_ := y7 (Kd.R_elder' (by refine zR ?_; exact (Kd.R_mono (Kd.R_far (p := ⟨gb105, 0, none⟩) (Kd.R_types HO104.out BK105.out (by decide)) (fun _ hk => hk.2) (.slice Ao7 y102.length co7)) (fun _ h_ => h_.1))) (Kd.R_base ho13) hb) (Kd.R_lower (Kd.R_new' ho13 (Kd.R_lt (by refine zR ?_; exact (Kd.R_mono (Kd.R_far (p := ⟨gb105, 0, none⟩) (Kd.R_types HO104.out BK105.out (by decide)) (fun _ hk => hk.2) (.slice Ao7 y102.length co7)) (fun _ h_ => h_.1))))) (keep_size (w := w) (g := g) (row := none) (zK))) (IsS65.below (show IsS65 w0 (w8.setCell ⟨gb105, 0, none⟩ (.slice Ao7 y102.length co7)) g s0_0 s0_1 s0_2 from zI) hb) (blk_below (g := gb101) (o := .cells #[.slice none 0 0] 26 (0, 0)) (by refine zG ?_; refine blk_far ?_ NB101_105.out _; refine zG ?_; exact BK101.out) hb) (blk_below (g := gb105) (o := .cells #[.slice Ao7 y102.length co7] 26 (0, 0)) (by refine zG ?_; refine blk_put (cs := #[.slice none 0 0]) ?_ 0 _ rfl; refine zG ?_; exact BK105.out) hb) (KeepBut.trans (zK) (KeepBut.of_below hb g none) (.inl rfl)) (below_step (zB) hb); clear HO104 HI0 BK101 BK105 HK HB; obtain ⟨HO104, HO108, HI0, BK101, BK105, HK, HB⟩ := n_; clear hb ho13; obtain ⟨Ao14, co14, eo14⟩ := Kd.R_slice HO108.out; subst eo14) | ((with_reducible refine gate_callee (f := 37) rfl ?_); refine goesL_ (some 11) rfl rfl Try.func37 zk rfl #[.pointer (some ⟨g, 0, none⟩), .slice Ao14 y106.length co14] rfl zA ?_; (with_reducible refine (spec_l01Pick.calls g s0_0 s0_1 s0_2 _ _ y106 t109 t110 t111 w0 _ ?side1 ?side2 ?side3 ?side4 ?side5 A2.out).mono ?_); (case side1 => exact zI); (case side2 => exact zB); (case side3 => exact zC (Kd.R_reads' HO108.out).2.2); (case side4 => exact (Kd.R_reads' HO108.out).2.1); (case side5 => exact far_slice (IsS65.own_ne HI0.out HO108.out (by decide))); rintro e w15 ⟨rfl, hi, hb, hk⟩; refine ⟨_, rfl, ?_⟩; have n_ := y7 (KeepBut.blk hk (g' := gb101) (o := .cells #[.slice none 0 0] 26 (0, 0)) (zG BK101.out) NB101_0.out (by simp)) (Kd.R_mono (Kd.R_keep (IsS65.apart (show IsS65 w0 _ g s0_0 s0_1 s0_2 from zI) (zR HO104.out) (by decide)) hk (fun _ h => h.2)) (fun _ h => h.1)) (KeepBut.blk hk (g' := gb105) (o := .cells #[.slice Ao7 y102.length co7] 26 (0, 0)) (zG BK105.out) NB105_0.out (by simp)) (Kd.R_mono (Kd.R_keep (IsS65.apart (show IsS65 w0 _ g s0_0 s0_1 s0_2 from zI) (zR HO108.out) (by decide)) hk (fun _ h => h.2)) (fun _ h => h.1)) (KeepBut.trans (zK) hk (.inl rfl)) (hb) (hi); clear BK101 HO104 BK105 HO108 HK HB HI0; obtain ⟨BK101, HO104, BK105, HO108, HK, HB, HI0⟩ := n_; (try clear hb); (try clear hb2); (try clear hk); (try clear hi)) | ((with_reducible refine gate_callee (f := 45) rfl ?_); refine goesL_ (some 12) rfl rfl Try.func45 zk rfl #[.pointer (some ⟨g, 0, none⟩), .int .i64 t109] rfl zA ?_; (with_reducible refine (spec_l01Next.calls g s0_0 t110 t111 t109 t112 t113 t114 w0 _ ?side1 ?side2 A3.out).mono ?_); (case side1 => exact zI); (case side2 => exact zB); rintro e w16 ⟨rfl, hi, hb, hk⟩; refine ⟨_, rfl, ?_⟩; have n_ := y7 (KeepBut.blk hk (g' := gb101) (o := .cells #[.slice none 0 0] 26 (0, 0)) (zG BK101.out) NB101_0.out (by simp)) (Kd.R_mono (Kd.R_keep (IsS65.apart (show IsS65 w0 _ g s0_0 t110 t111 from zI) (zR HO104.out) (by decide)) hk (fun _ h => h.2)) (fun _ h => h.1)) (KeepBut.blk hk (g' := gb105) (o := .cells #[.slice Ao7 y102.length co7] 26 (0, 0)) (zG BK105.out) NB105_0.out (by simp)) (Kd.R_mono (Kd.R_keep (IsS65.apart (show IsS65 w0 _ g s0_0 t110 t111 from zI) (zR HO108.out) (by decide)) hk (fun _ h => h.2)) (fun _ h => h.1)) (KeepBut.trans (zK) hk (.inl rfl)) (hb) (hi); clear BK101 HO104 BK105 HO108 HK HB HI0; obtain ⟨BK101, HO104, BK105, HO108, HK, HB, HI0⟩ := n_; (try clear hb); (try clear hb2); (try clear hk); (try clear hi)))
 go_loopg [5] k (fun kq v5 w' => ∃ (x5_1 : Int) (x1001_1 : Int) (x1002_1 : Int) (x106000_1 : List Int) (u106000 : Value), v5 = .int .i64 x5_1 ∧ Aside0 (spec_l03Wide.l0 kq (wrap64 (1 + t112)) x5_1 s0_0 x1001_1 x1002_1 x106000_1 = some (r1, r2, r3)) ∧ Aside0 (kq ≤ k) ∧ Aside0 (Kd.R (Kd.int .i64) 2 w' w.heap.size (fun _ => True) u106000 x106000_1) ∧ Aside0 (w'.heap[gb101]? = some (.cells #[(.slice none 0 0)] 26 (0, 0))) ∧ Aside0 (w'.heap[gb105]? = some (.cells #[u106000] 26 (0, 0))) ∧ Aside0 (IsS65 w0 w' g s0_0 x1001_1 x1002_1) ∧ Aside0 (KeepBut w w' g none) ∧ Aside0 (Below w0.heap.size w0 w'))
 case atStart => exact ⟨(0), (t113), (t114), (y102), (.slice Ao7 y102.length co7), zF, H', ⟨Nat.le_refl _⟩, ⟨by refine zR ?_; exact Kd.R_mono HO104.out (fun _ hk => trivial)⟩, ⟨zG BK101.out⟩, ⟨zG BK105.out⟩, ⟨zI⟩, ⟨zK⟩, ⟨zB⟩⟩
 clear H'
 try clear hcz11_0
 try clear hfz11_0
 obtain ⟨x5_1, x1001_1, x1002_1, x106000_1, u106000, rfl, HA, HK1, HO_106000, BK101, BK105, HI0, HK, HB⟩ := hrel
 cases gk with
 | zero => exact absurd HA.out (by simp [spec_l03Wide.l0])
 | succ k1 =>
   have H := HA.out
   clear HA
   simp only [spec_l03Wide.l0] at H
   by_cases c17 : x5_1 < (wrap64 (1 + t112))
   · rw [if_pos c17] at H
     have c17b0 : decide (x5_1 < (wrap64 (1 + t112))) = true := decide_eq_true c17
     clear c17
     replace H := Option.bind_eq_some_iff.mp H
     obtain ⟨⟨t115, t116, t117⟩, A180, H⟩ := H
     replace H : (if x106000_1.length < 17592186044416 then (spec_l03Wide.l0 k1 (wrap64 (1 + t112)) (wrap64 (x5_1 + 1)) s0_0 t116 t117 (x106000_1 ++ [mn (wrap64 ((wrap64 (1 + t112)) + t115)) 40])) else (none)) = some (r1, r2, r3) := H
     have A18 := Aside0.mk A180
     clear A180
     obtain ⟨ji19, hji19⟩ : ∃ j_ : Int, (mn (wrap64 ((wrap64 (1 + t112)) + t115)) 40) = j_ := ⟨_, rfl⟩
     replace H : (if x106000_1.length < 17592186044416 then (spec_l03Wide.l0 k1 (wrap64 (1 + t112)) (wrap64 (x5_1 + 1)) s0_0 t116 t117 (x106000_1 ++ [ji19])) else (none)) = some (r1, r2, r3) := by first | (rw [hji19] at H; exact H) | (simp only [hji19] at H ⊢; exact H)
     (try rw [hji19] at A18)
     have hji19_ : (if 40 < (wrap64 ((wrap64 (1 + t112)) + t115)) then 40 else (wrap64 ((wrap64 (1 + t112)) + t115))) = ji19 := hji19
     by_cases c20 : x106000_1.length < 17592186044416
     · rw [if_pos c20] at H
       have LMc20 := Aside0.mk c20
       clear c20
       obtain ⟨y118, hy118⟩ : ∃ y_ : List Int, y_ = (x106000_1 ++ [ji19]) := ⟨_, rfl⟩
       replace H : (spec_l03Wide.l0 k1 (wrap64 (1 + t112)) (wrap64 (x5_1 + 1)) s0_0 t116 t117 y118) = some (r1, r2, r3) := zH hy118
       have Ny118 := Aside0.mk hy118
       clear hy118
       have H' := Aside0.mk H
       clear H
       try go_wp2
       have n_ := y6 (Kd.R_drew HO_106000.out) (blk_drew BK101.out) (blk_drew BK105.out) (IsS65.drew HI0.out) (keep_drew HK.out) (below_drew1 HB.out)
       clear HO_106000 BK101 BK105 HI0 HK HB
       obtain ⟨HO_106000, BK101, BK105, HI0, HK, HB⟩ := n_
       refine start_ (n := 14) (S := fun w' => w'.cell? ⟨gb105, 0, none⟩ = some (u106000)) (ds := [13]) #[false,false,false,false,false,false,false,false,false,false,false,false,false,false] zk rfl rfl ((blk_cell BK105.out 0).trans rfl) (fun hHeld => ?_); refine with_tabW spec_l03Wide.tab6 spec_l03Wide.bits6 (fun HT_ HW_ => ?_)
       generalize wr.drew = w21 at HO_106000 BK101 BK105 HI0 HK HB hHeld ⊢
       refine pure_ (i := 0) (N := some 19) (v := ?_) (a' := ?_) #[true,false,false,false,false,false,false,false,false,false,false,false,false,false] rfl rfl (any_of HT_.out zk) (fun _ _ _ h => h) (Or.inl ⟨by rfl, ?_⟩) ?_ ?_
       rotate_left; exact zp; rotate_left; exact zq
       refine pure_ (i := 2) (N := some 21) (v := ?_) (a' := ?_) #[true,false,true,false,false,false,false,false,false,false,false,false,false,false] rfl rfl (any_of HT_.out zk) (fun _ _ _ h => h) (Or.inl ⟨by rfl, ?_⟩) ?_ ?_
       rotate_left; exact zp; rotate_left; exact zq
       refine pure_ (i := 3) (N := some 22) (v := ?_) (a' := ?_) #[true,false,true,true,false,false,false,false,false,false,false,false,false,false] rfl rfl (any_of HT_.out zk) (fun _ _ _ h => h) (Or.inl ⟨by rfl, ?_⟩) ?_ ?_
       rotate_left; exact zp; rotate_left; exact zq
       refine pure_ (i := 4) (N := some 23) (v := ?_) (a' := ?_) #[true,false,true,true,true,false,false,false,false,false,false,false,false,false] rfl rfl (any_of HT_.out zk) (fun _ _ _ h => h) (Or.inl ⟨by rfl, ?_⟩) ?_ ?_
       rotate_left; exact zp; rotate_left; exact zq
       refine pure_ (i := 5) (N := some 24) (v := ?_) (a' := ?_) #[true,false,true,true,true,true,false,false,false,false,false,false,false,false] rfl rfl (any_of HT_.out zk) (fun _ _ _ h => h) (Or.inl ⟨by rfl, ?_⟩) ?_ ?_
       rotate_left; exact zp; rotate_left; exact zq
       refine pure_ (i := 6) (N := some 25) (v := ?_) (a' := ?_) #[true,false,true,true,true,true,true,false,false,false,false,false,false,false] rfl rfl (any_of HT_.out zk) (fun _ _ _ h => h) (Or.inl ⟨by rfl, ?_⟩) ?_ ?_
       rotate_left; exact zp; rotate_left; exact zq
       refine take_ (i := 1) (N := some 20) (v := ?_) (a' := ?_) #[true,true,true,true,true,true,true,false,false,false,false,false,false,false] rfl rfl (take_ofW HT_.out HW_.out zk) (fun _ _ _ h => h) (Or.inl ⟨by rfl, ?_⟩) hHeld ?_ ?_
       rotate_left
       · intro w' s0
         go_simp
         with_reducible rfl
       rotate_left
       · simp only [Act.put, List.setIfInBounds_toArray, List.set_cons_zero, List.set_cons_succ, i64_w, i32_w]
         rfl
       refine one_ (i := 7) (N := some 26) #[true,true,true,true,true,true,true,true,false,false,false,false,false,false] rfl rfl (one_of HT_.out zk) (by decide) (fun K hK => ?_)
       refine goes_ Try.func45 zk rfl #[.pointer (some ⟨g, 0, none⟩), .int .i64 (wrap64 ((wrap64 (2 * (wrap64 (1 + t112)))) + 3))] (by rfl) rfl rfl zA ?_
       with_reducible refine (spec_l01Next.calls g s0_0 x1001_1 x1002_1 (wrap64 ((wrap64 (2 * (wrap64 (1 + t112)))) + 3)) t115 t116 t117 w0 _ ?side1 ?side2 A18.out).mono ?_
       (case side1 => exact zI)
       (case side2 => exact zB)
       rintro e w22 ⟨rfl, hi, hb, hk⟩
       refine ⟨_, rfl, ?_⟩
       have n_ := y6 (Kd.R_mono (Kd.R_keep (IsS65.apart (show IsS65 w0 _ g s0_0 x1001_1 x1002_1 from zI) (zR HO_106000.out) (by decide)) hk (fun _ h => h.2)) (fun _ h => h.1)) (KeepBut.blk hk (g' := gb101) (o := .cells #[.slice none 0 0] 26 (0, 0)) (zG BK101.out) NB101_0.out (by simp)) (KeepBut.blk hk (g' := gb105) (o := .cells #[u106000] 26 (0, 0)) (zG BK105.out) NB105_0.out (by simp)) (KeepBut.trans (zK) hk (.inl rfl)) (hb) (hi)
       clear HO_106000 BK101 BK105 HK HB HI0
       obtain ⟨HO_106000, BK101, BK105, HK, HB, HI0⟩ := n_
       (try clear hb)
       (try clear hb2)
       (try clear hk)
       (try clear hi)
       refine hK.out _ _ ((blk_cell BK105.out 0).trans rfl) (fun hHeld => ?_)
       clear hK K
       refine norm_ (a' := ?_) ?_ ?_
       rotate_left
       · show Act.put _ (some 26) _ = _
         simp only [Act.put, List.setIfInBounds_toArray, List.set_cons_zero, List.set_cons_succ, i64_w, i32_w]
         rfl
       refine pure_ (i := 8) (N := some 27) (v := ?_) (a' := ?_) #[true,true,true,true,true,true,true,true,true,false,false,false,false,false] rfl rfl (any_of HT_.out zk) (fun _ _ _ h => h) (Or.inl ⟨by rfl, ?_⟩) ?_ ?_
       rotate_left; exact zp; rotate_left; exact zq
       refine pure_ (i := 9) (N := some 28) (v := ?_) (a' := ?_) #[true,true,true,true,true,true,true,true,true,true,false,false,false,false] rfl rfl (any_of HT_.out zk) (fun _ _ _ h => h) (Or.inl ⟨by rfl, ?_⟩) ?_ ?_
       rotate_left; exact zp; rotate_left; exact zq
       refine one_ (i := 10) (N := some 29) #[true,true,true,true,true,true,true,true,true,true,true,false,false,false] rfl rfl (one_of HT_.out zk) (by decide) (fun K hK => ?_)
       refine value_ (w1 := ?_) (v := ?_) (by rfl) rfl ?_ ?_
       rotate_left 2
       · go_simp
         constructor
         · rfl
         · rfl
       refine hK.out _ _ ((blk_cell (blk_alloc BK105.out _) 0).trans rfl) (fun hHeld => ?_)
       clear hK K
       refine norm_ (a' := ?_) ?_ ?_
       rotate_left
       · show Act.put _ (some 29) _ = _
         simp only [Act.put, List.setIfInBounds_toArray, List.set_cons_zero, List.set_cons_succ, i64_w, i32_w]
         rfl
       refine one_ (i := 11) (N := some 30) #[true,true,true,true,true,true,true,true,true,true,true,true,false,false] rfl rfl (one_of HT_.out zk) (by decide) (fun K hK => ?_)
       refine Kd.R_append_step (Kd.int .i64) w.heap.size (by rfl) (.tmp 20) (.tmp 29) 24 2 (.int .i64 0) 8 rfl Try.underlying24 info2 rfl (by decide) (by omega) u106000 x106000_1 ji19 [.int .i64 ji19] (fun _ => True) (fun _ => False) rfl rfl ?aP (fun _ hk => hk.elim) ?aF ?aO (Below.refl _ _) ?aS ?aL ?_
       (case aP => exact rfl)
       (case aF => exact (fun _ _ => trivial))
       (case aO => exact (zR HO_106000.out))
       (case aS => exact (keep_size (w := w) (g := g) (row := none) (zK)))
       (case aL => have := LMc20.out; omega)
       intro v119 w23 ho hb hg hat
       rw [← Ny118.out] at ho
       have n_ := y6 (blk_grown (g := gb101) (o := .cells #[.slice none 0 0] 26 (0, 0)) (zG BK101.out) hg (Kd.R_ne HO_106000.out BK101.out (by decide))) (blk_grown (g := gb105) (o := .cells #[u106000] 26 (0, 0)) (zG BK105.out) hg (Kd.R_ne HO_106000.out BK105.out (by decide))) (IsS65.grown (zI) hg (IsS65.own_ne HI0.out HO_106000.out (by decide))) (below_weaken (zB) HL.out hb) (KeepBut.trans (zK) (KeepBut.of_grown hg g) (Kd.R_base2 HO_106000.out)) (ho)
       clear BK101 BK105 HI0 HB HK HO_106000
       obtain ⟨BK101, BK105, HI0, HB, HK, HO120⟩ := n_
       clear ho hb hg hat
       obtain ⟨Ao24, co24, eo24⟩ := Kd.R_slice HO120.out
       (first | subst eo24 | (injection eo24 with f1_ f2_ f3_; have f4_ := f1_.symm; have f5_ := f3_.symm; clear f1_ f2_ f3_; subst f4_; subst f5_))
       refine hK.out _ _ ((blk_cell BK105.out 0).trans rfl) (fun hHeld => ?_)
       clear hK K
       refine norm_ (a' := ?_) ?_ ?_
       rotate_left
       · show Act.put _ (some 30) _ = _
         simp only [Act.put, List.setIfInBounds_toArray, List.set_cons_zero, List.set_cons_succ, i64_w, i32_w]
         rfl
       refine pure_ (i := 12) (N := some 31) (v := ?_) (a' := ?_) #[true,true,true,true,true,true,true,true,true,true,true,true,true,false] rfl rfl (any_of HT_.out zk) (fun _ _ _ h => h) (Or.inl ⟨by rfl, ?_⟩) ?_ ?_
       rotate_left; exact zp; rotate_left; exact zq
       refine last_ (i := 13) (N := none) #[true,true,true,true,true,true,true,true,true,true,true,true,true,true] rfl rfl (one_of HT_.out zk) (by decide) (fun K hK => ?_)
       have hs25 : w23.cell? ⟨gb105, 0, none⟩ = some (u106000) := (blk_cell BK105.out 0).trans rfl
       have hfs25 := blk_frozen BK105.out 0
       have hns25_0 := NB101_105.out
       have hms25_0 := NB105_101.out
       refine skip_ (w1 := ?_) (by rfl) rfl ?_ ?_
       rotate_left
       · go_simp
         rfl
       refine hK.out _ _ ?_
       clear hK K
       refine done_ (done_of HT_.out zk) ?_
       try go_wp2
       go_roundg k1
       case measure => have := HK1.out; omega
       case rel => exact ⟨(wrap64 (x5_1 + 1)), (t116), (t117), (y118), (.slice Ao24 y118.length co24), zF, H', ⟨by have := HK1.out; omega⟩, ⟨by refine zR ?_; exact Kd.R_mono (Kd.R_far (p := ⟨gb105, 0, none⟩) (Kd.R_types HO120.out BK105.out (by decide)) (fun _ hk => hk.2) (.slice Ao24 y118.length co24)) (fun _ hk => trivial)⟩, ⟨by refine zG ?_; refine blk_far ?_ NB101_105.out _; refine zG ?_; exact BK101.out⟩, ⟨by refine zG ?_; refine blk_put (cs := #[u106000]) ?_ 0 _ rfl; refine zG ?_; exact BK105.out⟩, ⟨zI⟩, ⟨zK⟩, ⟨zB⟩⟩
     · rw [if_neg c20] at H
       exact absurd H (by simp)
   · rw [if_neg c17] at H
     have c17b0 : decide (x5_1 < (wrap64 (1 + t112))) = false := decide_eq_false c17
     clear c17
     simp only [Option.some.injEq, Prod.mk.injEq] at H
     obtain ⟨rfl, rfl, rfl⟩ := H
     have hnb26 := NB105_101.out
     have hnc26 := NB101_105.out
     have hnb27 := NB105_0.out
     have hnc27 := NB0_105.out
     have hcz28_0 := zc BK105.out
     have hfz28_0 := blk_frozen BK105.out 0
     obtain ⟨Ao29, co29, eo29⟩ := Kd.R_slice HO_106000.out
     subst eo29
     have hnb30 := NB101_0.out
     have hnc30 := NB0_101.out
     have hcz31_0 := zc BK101.out
     have hfz31_0 := blk_frozen BK101.out 0
     go_wp2
     refine bodyPost_ret (results_cell_row rfl _ _ gb101 26 #[.slice Ao29 x106000_1.length co29] (0, 0) _ rfl (by refine zG ?_; refine blk_put (cs := #[.slice none 0 0]) ?_ 0 _ rfl; refine zG ?_; exact BK101.out) Try.underlying26 rfl zk) rfl ?_
     exact ⟨_, zE, by refine zR ?_; exact Kd.R_mono (Kd.R_far (p := ⟨gb101, 0, none⟩) (Kd.R_types HO_106000.out BK101.out (by decide)) (fun _ hk => hk.2) (.slice Ao29 x106000_1.length co29)) (fun _ hk => trivial), zI, zB, zK⟩
end Go.Proofs.Ytgbapmmfhdphmaa.P
end
section
namespace Go.Proofs.Ytgbapmmfhdphmaa.P
open Go.RowKit Go.Proofs.YtgbapmmfhdphmaaW.PrintWords Go.Proofs.YtgbapmmfhdphmaaW.PrintLast Go.Proofs.YtgbapmmfhdphmaaW.PrintMore
attribute [local go_sem] max2_int min2_int max_two min_two max_three min_three max_four min_four   -- for this text's walks alone
set_option linter.unusedVariables false
set_option linter.unusedSimpArgs false
def spec_DrawTurnsByPowers.f (k : Nat) (l0 : List Int) : Option (List Int) := (spec_l01From.f k l0).bind fun bt102 => ((spec_l03Wide.f k bt102.1 bt102.2.1 bt102.2.2).bind fun bt106 => ((spec_l01Bad.f k bt102.1 bt106.2.1 bt106.2.2 bt106.1).bind fun bt111 => (some bt111.1)))
theorem spec_DrawTurnsByPowers.mono : ∀ a0 k, LeO (spec_DrawTurnsByPowers.f k a0) (spec_DrawTurnsByPowers.f (k + 1) a0) := by
  intro a0 k
  unfold spec_DrawTurnsByPowers.f
  repeat' first | (with_reducible exact spec_l01Bad.mono _ _ _ _ _) | (with_reducible exact spec_l01From.mono _ _) | (with_reducible exact spec_l03Wide.mono _ _ _ _) | (with_reducible exact LeO.refl _) | (with_reducible exact LeO.none _) | (with_reducible refine LeO.ite ?_ ?_) | (with_reducible refine LeO.bind ?_ (fun _ => ?_)) | exact spec_l01Bad.mono _ _ _ _ _ | exact spec_l01From.mono _ _ | exact spec_l03Wide.mono _ _ _ _ | exact LeO.none _ | refine LeO.ite ?_ ?_ | refine LeO.bind ?_ (fun _ => ?_)
set_option maxHeartbeats 8000000 in
set_option maxRecDepth 100000 in
theorem spec_DrawTurnsByPowers.calls (k : Nat) (A0 : Option Addr) (c0 : Nat) (l0 : List Int) (r : List Int) (w : World) (hr0 : Kd.C (Kd.int .u8) w A0 l0.length l0) (hc0 : l0.length ≤ c0) (h : spec_DrawTurnsByPowers.f k l0 = some r) :
    Calls Try.prog 17 #[.slice A0 l0.length c0] w fun e w' => ∃ v0_ : Value, e = .returned (.agg #[v0_]) ∧ Kd.R (Kd.int .i64) 2 w' w.heap.size (fun _ => True) v0_ r ∧ Below w.heap.size w w' := by
 have hu26 := Try.underlying26
 have HR0 := Aside0.mk hr0
 have HC0 := Aside0.mk hc0
 clear hr0 hc0
 have HB := Aside0.mk (Below.refl w.heap.size w)
 have H : ((spec_l01From.f k l0).bind fun bt102 => ((spec_l03Wide.f k bt102.1 bt102.2.1 bt102.2.2).bind fun bt106 => ((spec_l01Bad.f k bt102.1 bt106.2.1 bt106.2.2 bt106.1).bind fun bt111 => (some bt111.1)))) = some r := h
 clear h
 replace H := Option.bind_eq_some_iff.mp H
 obtain ⟨⟨t102, t103, t104⟩, A20, H⟩ := H
 replace H : ((spec_l03Wide.f k t102 t103 t104).bind fun bt106 => ((spec_l01Bad.f k t102 bt106.2.1 bt106.2.2 bt106.1).bind fun bt111 => (some bt111.1))) = some r := H
 have A2 := Aside0.mk A20
 clear A20
 replace H := Option.bind_eq_some_iff.mp H
 obtain ⟨⟨t106, t109, t110⟩, A30, H⟩ := H
 replace H : ((spec_l01Bad.f k t102 t109 t110 t106).bind fun bt111 => (some bt111.1)) = some r := H
 have A3 := Aside0.mk A30
 clear A30
 replace H := Option.bind_eq_some_iff.mp H
 obtain ⟨⟨t111, t114, t115⟩, A40, H⟩ := H
 replace H : (some t111) = some r := H
 have A4 := Aside0.mk A40
 clear A40
 obtain rfl := Option.some.inj H
 go_enter Try.func17, Try.ntmps17
 go_wp2_with (first | ((with_reducible refine gate_dst (N := 2) rfl ?_); refine box_event zr (N := 2) zr (cs := #[.slice none 0 0]) (t := 26) zg ?_; intro gb101 hg w5 hbox hb; have n_ := y4 (below_step (zB) hb) (hbox) ((zS hg : w.heap.size ≤ gb101)) ((zS hg : w.heap.size ≤ gb101)); clear HB; obtain ⟨HB, BK101, GW101, GE101⟩ := n_; clear hb hbox hg) | ((with_reducible refine gate_callee (f := 22) rfl ?_); refine goesL_ (some 5) rfl rfl Try.func22 zk rfl #[.slice A0 l0.length c0] rfl zA ?_; (with_reducible refine (spec_l01From.calls k _ _ l0 t102 t103 t104 w _ ?side1 ?side2 ?side3 A2.out).mono ?_); (case side1 => exact zB); (case side2 => exact HR0.out); (case side3 => exact HC0.out); rintro e w6 ⟨g105, rfl, hi, hb, hb2⟩; refine ⟨_, rfl, ?_⟩; have n_ := y5 (zb BK101.out hb2) (hb) (hi) (IsS65.ne_blk hi (zb BK101.out hb2) (by decide)) (Ne.symm (IsS65.ne_blk hi (zb BK101.out hb2) (by decide))); clear BK101 HB; obtain ⟨BK101, HB, HI105, NB105_101, NB101_105⟩ := n_; (try clear hb); (try clear hb2); (try clear hk); (try clear hi)) | ((with_reducible refine gate_callee (f := 43) rfl ?_); refine goesL_ (some 8) rfl rfl Try.func43 zk rfl #[.pointer (some ⟨g105, 0, none⟩)] rfl zA ?_; (with_reducible refine (spec_l03Wide.calls k g105 t102 t103 t104 t106 t109 t110 w _ ?side1 ?side2 A3.out).mono ?_); (case side1 => exact zI5); (case side2 => exact zB); rintro e w7 ⟨v107, rfl, ho0, hi, hb, hk⟩; refine ⟨_, rfl, ?_⟩; have n_ := y4 (KeepBut.blk hk (g' := gb101) (o := .cells #[.slice none 0 0] 26 (0, 0)) (zG BK101.out) NB101_105.out (by simp)) (Kd.R_lower ho0 (below_size (zB))) (hb) (hi); clear BK101 HB HI105; obtain ⟨BK101, HO108, HB, HI105⟩ := n_; (try clear hb); (try clear hb2); (try clear hk); (try clear hi); (try clear ho0); obtain ⟨Ao8, co8, eo8⟩ := Kd.R_slice HO108.out; subst eo8) | ((with_reducible refine gate_callee (f := 23) rfl ?_); refine goesL_ (some 9) rfl rfl Try.func23 zk rfl #[.pointer (some ⟨g105, 0, none⟩), .agg #[.slice Ao8 t106.length co8]] rfl zA ?_; (with_reducible refine (spec_l01Bad.calls k g105 t102 t109 t110 (fun k_ => some k_ = (.slice Ao8 t106.length co8 : Value).ownBlock) (.slice Ao8 t106.length co8) t106 t111 t114 t115 w _ ?side1 ?side2 ?side3 A4.out).mono ?_); (case side1 => exact zI5); (case side2 => exact zB); (case side3 => exact Kd.R_tight rfl HO108.out); rintro e w9 ⟨v112, rfl, ho0, hi, hb, hkp⟩; refine ⟨_, rfl, ?_⟩; have n_ := y4 (blk_kept (zG BK101.out) hkp (fun hs_ => Or.elim hs_ (fun hs_ => (fun e_ => (Kd.R_ne HO108.out BK101.out (by decide)) e_) hs_) (fun e_ => NB101_105.out e_))) (hi) (Kd.R_mono (ok' := fun k_ => True) ho0 (fun k_ hk_ => trivial)) (hb); clear BK101 HI105 HB HO108; obtain ⟨BK101, HI105, HO113, HB⟩ := n_; (try clear hb); (try clear hkp); (try clear ho0); obtain ⟨Ao10, co10, eo10⟩ := Kd.R_slice HO113.out; subst eo10; have hnb11 := NB101_105.out; have hnc11 := NB105_101.out; have hcz12_0 := zc BK101.out; have hfz12_0 := blk_frozen BK101.out 0))
 refine bodyPost_ret (results_cell_row rfl _ _ gb101 26 #[.slice Ao10 t111.length co10] (0, 0) _ rfl (by refine zG ?_; refine blk_put (cs := #[.slice none 0 0]) ?_ 0 _ rfl; refine zG ?_; exact BK101.out) Try.underlying26 rfl zk) rfl ?_
 exact ⟨_, zE, by refine zR ?_; exact Kd.R_mono (Kd.R_far (p := ⟨gb101, 0, none⟩) (Kd.R_types HO113.out BK101.out (by decide)) (fun _ hk => hk.2) (.slice Ao10 t111.length co10)) (fun _ hk => trivial), zB⟩
end Go.Proofs.Ytgbapmmfhdphmaa.P
end
section
namespace Go.Proofs.Ytgbapmmfhdphmaa.P
open Go.RowKit Go.Proofs.YtgbapmmfhdphmaaW.PrintWords Go.Proofs.YtgbapmmfhdphmaaW.PrintLast Go.Proofs.YtgbapmmfhdphmaaW.PrintMore
attribute [local go_sem] max2_int min2_int max_two min_two max_three min_three max_four min_four   -- for this text's walks alone
set_option linter.unusedVariables false
set_option linter.unusedSimpArgs false
def impl_TurnsByPowers.f (k : Nat) (l0_0 : List Int) : Option (List Int × Int) := (impl_tasksCode.f l0_0 true).bind fun t102 => (if t102 = 0 then ((impl_Tasks_lessened.f k l0_0 1).bind fun t103 => ((impl_Tasks_isThin.f k t103).bind fun t107 => (if t107 = true then ((impl_Tasks_harmonic.f k t103).bind fun t108 => (some (t108, 0))) else (some (([] : List Int), 4))))) else (some (([] : List Int), t102)))
theorem impl_TurnsByPowers.mono : ∀ a0 k, LeO (impl_TurnsByPowers.f k a0) (impl_TurnsByPowers.f (k + 1) a0) := by
  intro a0 k
  unfold impl_TurnsByPowers.f
  repeat' first | (with_reducible exact impl_Tasks_harmonic.mono _ _) | (with_reducible exact impl_Tasks_isThin.mono _ _) | (with_reducible exact impl_Tasks_lessened.mono _ _ _) | (with_reducible exact LeO.refl _) | (with_reducible exact LeO.none _) | (with_reducible refine LeO.ite ?_ ?_) | (with_reducible refine LeO.bind ?_ (fun _ => ?_)) | exact impl_Tasks_harmonic.mono _ _ | exact impl_Tasks_isThin.mono _ _ | exact impl_Tasks_lessened.mono _ _ _ | exact LeO.none _ | refine LeO.ite ?_ ?_ | refine LeO.bind ?_ (fun _ => ?_)
set_option maxHeartbeats 8000000 in
set_option maxRecDepth 100000 in
theorem impl_TurnsByPowers.calls (k : Nat) (A0_0 : Option Addr) (c0_0 : Nat) (l0_0 : List Int) (r1 : List Int) (r2 : Int) (w : World) (hr0_0 : Kd.C (Kd.int .i64) w A0_0 l0_0.length l0_0) (hc0_0 : l0_0.length ≤ c0_0) (h : impl_TurnsByPowers.f k l0_0 = some (r1, r2)) :
    Calls Try.prog 18 #[.agg #[.slice A0_0 l0_0.length c0_0]] w fun e w' => ∃ v0_ : Value, e = .returned (.tuple #[v0_, .int .i64 r2]) ∧ Kd.R (Kd.int .i64) 2 w' w.heap.size (fun _ => True) v0_ r1 ∧ Below w.heap.size w w' := by
 have hu26 := Try.underlying26
 have HR0_0 := Aside0.mk hr0_0
 have HC0_0 := Aside0.mk hc0_0
 clear hr0_0 hc0_0
 have HB := Aside0.mk (Below.refl w.heap.size w)
 have H : ((impl_tasksCode.f l0_0 true).bind fun t102 => (if t102 = 0 then ((impl_Tasks_lessened.f k l0_0 1).bind fun t103 => ((impl_Tasks_isThin.f k t103).bind fun t107 => (if t107 = true then ((impl_Tasks_harmonic.f k t103).bind fun t108 => (some (t108, 0))) else (some (([] : List Int), 4))))) else (some (([] : List Int), t102)))) = some (r1, r2) := h
 clear h
 replace H := Option.bind_eq_some_iff.mp H
 obtain ⟨t102, A20, H⟩ := H
 replace H : (if t102 = 0 then ((impl_Tasks_lessened.f k l0_0 1).bind fun t103 => ((impl_Tasks_isThin.f k t103).bind fun t107 => (if t107 = true then ((impl_Tasks_harmonic.f k t103).bind fun t108 => (some (t108, 0))) else (some (([] : List Int), 4))))) else (some (([] : List Int), t102))) = some (r1, r2) := H
 have A2 := Aside0.mk A20
 clear A20
 by_cases c3 : t102 = 0
 ·
  rw [if_pos c3] at H
  have c3b0 : (t102 == 0) = true := beq_iff_eq.mpr c3
  have c3b1 : (t102 != 0) = false := bne_eq_false_iff_eq.mpr c3
  clear c3
  replace H := Option.bind_eq_some_iff.mp H
  obtain ⟨t103, A40, H⟩ := H
  replace H : ((impl_Tasks_isThin.f k t103).bind fun t107 => (if t107 = true then ((impl_Tasks_harmonic.f k t103).bind fun t108 => (some (t108, 0))) else (some (([] : List Int), 4)))) = some (r1, r2) := H
  have A4 := Aside0.mk A40
  clear A40
  replace H := Option.bind_eq_some_iff.mp H
  obtain ⟨t107, A50, H⟩ := H
  replace H : (if t107 = true then ((impl_Tasks_harmonic.f k t103).bind fun t108 => (some (t108, 0))) else (some (([] : List Int), 4))) = some (r1, r2) := H
  have A5 := Aside0.mk A50
  clear A50
  by_cases c6 : t107 = true
  ·
   subst c6
   have H1 : ((impl_Tasks_harmonic.f k t103).bind fun t108 => (some (t108, 0))) = some (r1, r2) := by rw [if_pos rfl] at H; exact H
   clear H
   have H := H1
   clear H1
   replace H := Option.bind_eq_some_iff.mp H
   obtain ⟨t108, A70, H⟩ := H
   replace H : (some (t108, 0)) = some (r1, r2) := H
   have A7 := Aside0.mk A70
   clear A70
   simp only [Option.some.injEq, Prod.mk.injEq] at H
   obtain ⟨rfl, rfl⟩ := H
   go_enter Try.func18, Try.ntmps18
   go_wp2_with (first | ((with_reducible refine gate_dst (N := 1) rfl ?_); refine box_event zr (N := 1) zr (cs := #[.slice A0_0 l0_0.length c0_0]) (t := 26) zg ?_; intro gb101 hg w8 hbox hb; have n_ := y4 (below_step (zB) hb) (hbox) ((zS hg : w.heap.size ≤ gb101)) ((zS hg : w.heap.size ≤ gb101)); clear HB; obtain ⟨HB, BK101, GW101, GE101⟩ := n_; clear hb hbox hg; have hcz9_0 := zc BK101.out; have hfz9_0 := blk_frozen BK101.out 0) | ((with_reducible refine gate_callee (f := 25) rfl ?_); refine goesL_ (some 7) rfl rfl Try.func25 zk rfl #[.agg #[.slice A0_0 l0_0.length c0_0], .bool true] rfl zA ?_; (with_reducible refine (impl_tasksCode.calls _ _ l0_0 true t102 _ ?side1 ?side2 A2.out).mono ?_); (case side1 => exact zC (Kd.C_below HR0_0.out HB.out)); (case side2 => exact HC0_0.out); rintro e w10 ⟨rfl, hb⟩; refine ⟨_, rfl, ?_⟩; have n_ := y2 (zb BK101.out hb) (below_step (zB) hb); clear BK101 HB; obtain ⟨BK101, HB⟩ := n_; (try clear hb); (try clear hb2); (try clear hk); (try clear hi); have hcz11_0 := zc BK101.out; have hfz11_0 := blk_frozen BK101.out 0) | ((with_reducible refine gate_callee (f := 40) rfl ?_); refine goesL_ (some 12) rfl rfl Try.func40 zk rfl #[.agg #[.slice A0_0 l0_0.length c0_0], .int .i64 1] rfl zA ?_; (with_reducible refine (impl_Tasks_lessened.calls k _ _ l0_0 1 t103 _ ?side1 ?side2 A4.out).mono ?_); (case side1 => exact zC (Kd.C_below HR0_0.out HB.out)); (case side2 => exact HC0_0.out); rintro e w12 ⟨v104, rfl, ho0, hb⟩; refine ⟨_, rfl, ?_⟩; have n_ := y3 (Kd.R_lower ho0 (below_size (zB))) (zb BK101.out hb) (below_step (zB) hb); clear BK101 HB; obtain ⟨HO105, BK101, HB⟩ := n_; (try clear hb); (try clear hb2); (try clear hk); (try clear hi); (try clear ho0)) | ((with_reducible refine gate_dst (N := 5) rfl ?_); refine box_event zr (N := 5) zr (cs := #[.slice none 0 0]) (t := 26) zg ?_; intro gb106 hg w13 hbox hb; have n_ := y8 (Kd.R_below (zR HO105.out) hb) (zb BK101.out hb) (below_step (zB) hb) (hbox) ((zS hg : w.heap.size ≤ gb106)) ((zS hg : w.heap.size ≤ gb106)) ((zL hg BK101.out : gb101 ≠ gb106)) ((zM hg BK101.out : gb106 ≠ gb101)); clear HO105 BK101 HB; obtain ⟨HO105, BK101, HB, BK106, GW106, GE106, NB101_106, NB106_101⟩ := n_; clear hb hbox hg; obtain ⟨Ao14, co14, eo14⟩ := Kd.R_slice HO105.out; subst eo14; have hnb15 := NB106_101.out; have hnc15 := NB101_106.out; have hcz16_0 := zc BK106.out; have hfz16_0 := blk_frozen BK106.out 0) | ((with_reducible refine gate_callee (f := 27) rfl ?_); refine goesL_ (some 14) rfl rfl Try.func27 zk rfl #[.agg #[.slice Ao14 t103.length co14]] rfl zA ?_; (with_reducible refine (impl_Tasks_isThin.calls k _ _ t103 true _ ?side1 ?side2 A5.out).mono ?_); (case side1 => refine (Kd.R_reads' (e := 2) (base := w.heap.size) (ok := fun k_ => True) (n := t103.length) (c := co14) ?_).2.2; exact (by refine zR ?_; exact (Kd.R_mono (Kd.R_far (p := ⟨gb106, 0, none⟩) (Kd.R_types HO105.out BK106.out (by decide)) (fun _ hk => hk.2) (.slice Ao14 t103.length co14)) (fun _ h_ => h_.1)))); (case side2 => exact (Kd.R_reads' HO105.out).2.1); rintro e w17 ⟨rfl, hb⟩; refine ⟨_, rfl, ?_⟩; have n_ := y4 (Kd.R_below (by refine zR ?_; exact (Kd.R_mono (Kd.R_far (p := ⟨gb106, 0, none⟩) (Kd.R_types HO105.out BK106.out (by decide)) (fun _ hk => hk.2) (.slice Ao14 t103.length co14)) (fun _ h_ => h_.1))) hb) (blk_below (g := gb101) (o := .cells #[.slice A0_0 l0_0.length c0_0] 26 (0, 0)) (by refine zG ?_; refine blk_far ?_ NB101_106.out _; refine zG ?_; exact BK101.out) hb) (blk_below (g := gb106) (o := .cells #[.slice Ao14 t103.length co14] 26 (0, 0)) (by refine zG ?_; refine blk_put (cs := #[.slice none 0 0]) ?_ 0 _ rfl; refine zG ?_; exact BK106.out) hb) (below_step (zB) hb); clear HO105 BK101 BK106 HB; obtain ⟨HO105, BK101, BK106, HB⟩ := n_; (try clear hb); (try clear hb2); (try clear hk); (try clear hi); have hcz18_0 := zc BK106.out; have hfz18_0 := blk_frozen BK106.out 0) | ((with_reducible refine gate_callee (f := 28) rfl ?_); refine goesL_ (some 17) rfl rfl Try.func28 zk rfl #[.agg #[.slice Ao14 t103.length co14]] rfl zA ?_; (with_reducible refine (impl_Tasks_harmonic.calls k _ _ t103 t108 _ ?side1 ?side2 A7.out).mono ?_); (case side1 => exact zC (Kd.R_reads' HO105.out).2.2); (case side2 => exact (Kd.R_reads' HO105.out).2.1); rintro e w19 ⟨v109, rfl, ho0, hb⟩; refine ⟨_, rfl, ?_⟩; have n_ := y5 (Kd.R_elder' (zR HO105.out) (Kd.R_base ho0) hb) (Kd.R_lower (Kd.R_new' ho0 (Kd.R_lt (zR HO105.out))) (below_size (zB))) (zb BK101.out hb) (zb BK106.out hb) (below_step (zB) hb); clear HO105 BK101 BK106 HB; obtain ⟨HO105, HO110, BK101, BK106, HB⟩ := n_; (try clear hb); (try clear hb2); (try clear hk); (try clear hi); (try clear ho0)))
   go_ret2
   exact ⟨_, zE, by refine zR ?_; exact Kd.R_mono HO110.out (fun _ hk => trivial), zB⟩
  replace c6 := Bool.eq_false_iff.mpr c6
  subst c6
  have H1 : (some (([] : List Int), 4)) = some (r1, r2) := by rw [if_neg (show ¬ (false = true) by decide)] at H; exact H
  clear H
  have H := H1
  clear H1
  simp only [Option.some.injEq, Prod.mk.injEq] at H
  obtain ⟨rfl, rfl⟩ := H
  go_enter Try.func18, Try.ntmps18
  go_wp2_with (first | ((with_reducible refine gate_dst (N := 1) rfl ?_); refine box_event zr (N := 1) zr (cs := #[.slice A0_0 l0_0.length c0_0]) (t := 26) zg ?_; intro gb101 hg w20 hbox hb; have n_ := y4 (below_step (zB) hb) (hbox) ((zS hg : w.heap.size ≤ gb101)) ((zS hg : w.heap.size ≤ gb101)); clear HB; obtain ⟨HB, BK101, GW101, GE101⟩ := n_; clear hb hbox hg; have hcz21_0 := zc BK101.out; have hfz21_0 := blk_frozen BK101.out 0) | ((with_reducible refine gate_callee (f := 25) rfl ?_); refine goesL_ (some 7) rfl rfl Try.func25 zk rfl #[.agg #[.slice A0_0 l0_0.length c0_0], .bool true] rfl zA ?_; (with_reducible refine (impl_tasksCode.calls _ _ l0_0 true t102 _ ?side1 ?side2 A2.out).mono ?_); (case side1 => exact zC (Kd.C_below HR0_0.out HB.out)); (case side2 => exact HC0_0.out); rintro e w22 ⟨rfl, hb⟩; refine ⟨_, rfl, ?_⟩; have n_ := y2 (zb BK101.out hb) (below_step (zB) hb); clear BK101 HB; obtain ⟨BK101, HB⟩ := n_; (try clear hb); (try clear hb2); (try clear hk); (try clear hi); have hcz23_0 := zc BK101.out; have hfz23_0 := blk_frozen BK101.out 0) | ((with_reducible refine gate_callee (f := 40) rfl ?_); refine goesL_ (some 12) rfl rfl Try.func40 zk rfl #[.agg #[.slice A0_0 l0_0.length c0_0], .int .i64 1] rfl zA ?_; (with_reducible refine (impl_Tasks_lessened.calls k _ _ l0_0 1 t103 _ ?side1 ?side2 A4.out).mono ?_); (case side1 => exact zC (Kd.C_below HR0_0.out HB.out)); (case side2 => exact HC0_0.out); rintro e w24 ⟨v104, rfl, ho0, hb⟩; refine ⟨_, rfl, ?_⟩; have n_ := y3 (Kd.R_lower ho0 (below_size (zB))) (zb BK101.out hb) (below_step (zB) hb); clear BK101 HB; obtain ⟨HO105, BK101, HB⟩ := n_; (try clear hb); (try clear hb2); (try clear hk); (try clear hi); (try clear ho0)) | ((with_reducible refine gate_dst (N := 5) rfl ?_); refine box_event zr (N := 5) zr (cs := #[.slice none 0 0]) (t := 26) zg ?_; intro gb106 hg w25 hbox hb; have n_ := y8 (Kd.R_below (zR HO105.out) hb) (zb BK101.out hb) (below_step (zB) hb) (hbox) ((zS hg : w.heap.size ≤ gb106)) ((zS hg : w.heap.size ≤ gb106)) ((zL hg BK101.out : gb101 ≠ gb106)) ((zM hg BK101.out : gb106 ≠ gb101)); clear HO105 BK101 HB; obtain ⟨HO105, BK101, HB, BK106, GW106, GE106, NB101_106, NB106_101⟩ := n_; clear hb hbox hg; obtain ⟨Ao26, co26, eo26⟩ := Kd.R_slice HO105.out; subst eo26; have hnb27 := NB106_101.out; have hnc27 := NB101_106.out; have hcz28_0 := zc BK106.out; have hfz28_0 := blk_frozen BK106.out 0) | ((with_reducible refine gate_callee (f := 27) rfl ?_); refine goesL_ (some 14) rfl rfl Try.func27 zk rfl #[.agg #[.slice Ao26 t103.length co26]] rfl zA ?_; (with_reducible refine (impl_Tasks_isThin.calls k _ _ t103 false _ ?side1 ?side2 A5.out).mono ?_); (case side1 => refine (Kd.R_reads' (e := 2) (base := w.heap.size) (ok := fun k_ => True) (n := t103.length) (c := co26) ?_).2.2; exact (by refine zR ?_; exact (Kd.R_mono (Kd.R_far (p := ⟨gb106, 0, none⟩) (Kd.R_types HO105.out BK106.out (by decide)) (fun _ hk => hk.2) (.slice Ao26 t103.length co26)) (fun _ h_ => h_.1)))); (case side2 => exact (Kd.R_reads' HO105.out).2.1); rintro e w29 ⟨rfl, hb⟩; refine ⟨_, rfl, ?_⟩; have n_ := y4 (Kd.R_below (by refine zR ?_; exact (Kd.R_mono (Kd.R_far (p := ⟨gb106, 0, none⟩) (Kd.R_types HO105.out BK106.out (by decide)) (fun _ hk => hk.2) (.slice Ao26 t103.length co26)) (fun _ h_ => h_.1))) hb) (blk_below (g := gb101) (o := .cells #[.slice A0_0 l0_0.length c0_0] 26 (0, 0)) (by refine zG ?_; refine blk_far ?_ NB101_106.out _; refine zG ?_; exact BK101.out) hb) (blk_below (g := gb106) (o := .cells #[.slice Ao26 t103.length co26] 26 (0, 0)) (by refine zG ?_; refine blk_put (cs := #[.slice none 0 0]) ?_ 0 _ rfl; refine zG ?_; exact BK106.out) hb) (below_step (zB) hb); clear HO105 BK101 BK106 HB; obtain ⟨HO105, BK101, BK106, HB⟩ := n_; (try clear hb); (try clear hb2); (try clear hk); (try clear hi)))
  go_ret2
  exact ⟨_, zE, zN, zB⟩
 rw [if_neg c3] at H
 have c3b0 : (t102 == 0) = false := beq_eq_false_iff_ne.mpr c3
 have c3b1 : (t102 != 0) = true := bne_iff_ne.mpr c3
 simp only [Option.some.injEq, Prod.mk.injEq] at H
 obtain ⟨rfl, rfl⟩ := H
 go_enter Try.func18, Try.ntmps18
 go_wp2_with (first | ((with_reducible refine gate_dst (N := 1) rfl ?_); refine box_event zr (N := 1) zr (cs := #[.slice A0_0 l0_0.length c0_0]) (t := 26) zg ?_; intro gb101 hg w30 hbox hb; have n_ := y4 (below_step (zB) hb) (hbox) ((zS hg : w.heap.size ≤ gb101)) ((zS hg : w.heap.size ≤ gb101)); clear HB; obtain ⟨HB, BK101, GW101, GE101⟩ := n_; clear hb hbox hg; have hcz31_0 := zc BK101.out; have hfz31_0 := blk_frozen BK101.out 0) | ((with_reducible refine gate_callee (f := 25) rfl ?_); refine goesL_ (some 7) rfl rfl Try.func25 zk rfl #[.agg #[.slice A0_0 l0_0.length c0_0], .bool true] rfl zA ?_; (with_reducible refine (impl_tasksCode.calls _ _ l0_0 true t102 _ ?side1 ?side2 A2.out).mono ?_); (case side1 => exact zC (Kd.C_below HR0_0.out HB.out)); (case side2 => exact HC0_0.out); rintro e w32 ⟨rfl, hb⟩; refine ⟨_, rfl, ?_⟩; have n_ := y2 (zb BK101.out hb) (below_step (zB) hb); clear BK101 HB; obtain ⟨BK101, HB⟩ := n_; (try clear hb); (try clear hb2); (try clear hk); (try clear hi)))
 go_ret2
 exact ⟨_, zE, zN, zB⟩
end Go.Proofs.Ytgbapmmfhdphmaa.P
end
section
namespace Go.Proofs.Ytgbapmmfhdphmaa.P
open Go.RowKit Go.Proofs.YtgbapmmfhdphmaaW.PrintWords Go.Proofs.YtgbapmmfhdphmaaW.PrintLast Go.Proofs.YtgbapmmfhdphmaaW.PrintMore
attribute [local go_sem] max2_int min2_int max_two min_two max_three min_three max_four min_four   -- for this text's walks alone
set_option linter.unusedVariables false
set_option linter.unusedSimpArgs false
def spec_TurnsByPowers.f (k : Nat) (l0_0 : List Int) : Option (List Int × Int) := (spec_l01Is.f k l0_0).bind fun t102 => (if t102 = true then ((spec_l03Lessened.f k l0_0 1).bind fun bt103 => ((spec_l03Turns.f k bt103.1).bind fun bt108 => (if bt108.2 = true then (some (bt108.1, 0)) else (some (([] : List Int), 4))))) else (some (([] : List Int), 1)))
theorem spec_TurnsByPowers.mono : ∀ a0 k, LeO (spec_TurnsByPowers.f k a0) (spec_TurnsByPowers.f (k + 1) a0) := by
  intro a0 k
  unfold spec_TurnsByPowers.f
  repeat' first | (with_reducible exact spec_l01Is.mono _ _) | (with_reducible exact spec_l03Lessened.mono _ _ _) | (with_reducible exact spec_l03Turns.mono _ _) | (with_reducible exact LeO.refl _) | (with_reducible exact LeO.none _) | (with_reducible refine LeO.ite ?_ ?_) | (with_reducible refine LeO.bind ?_ (fun _ => ?_)) | exact spec_l01Is.mono _ _ | exact spec_l03Lessened.mono _ _ _ | exact spec_l03Turns.mono _ _ | exact LeO.none _ | refine LeO.ite ?_ ?_ | refine LeO.bind ?_ (fun _ => ?_)
set_option maxHeartbeats 8000000 in
set_option maxRecDepth 100000 in
theorem spec_TurnsByPowers.calls (k : Nat) (A0_0 : Option Addr) (c0_0 : Nat) (l0_0 : List Int) (r1 : List Int) (r2 : Int) (w : World) (hr0_0 : Kd.C (Kd.int .i64) w A0_0 l0_0.length l0_0) (hc0_0 : l0_0.length ≤ c0_0) (h : spec_TurnsByPowers.f k l0_0 = some (r1, r2)) :
    Calls Try.prog 19 #[.agg #[.slice A0_0 l0_0.length c0_0]] w fun e w' => ∃ v0_ : Value, e = .returned (.tuple #[v0_, .int .i64 r2]) ∧ Kd.R (Kd.int .i64) 2 w' w.heap.size (fun _ => True) v0_ r1 ∧ Below w.heap.size w w' := by
 have hu26 := Try.underlying26
 have HR0_0 := Aside0.mk hr0_0
 have HC0_0 := Aside0.mk hc0_0
 clear hr0_0 hc0_0
 have HB := Aside0.mk (Below.refl w.heap.size w)
 have H : ((spec_l01Is.f k l0_0).bind fun t102 => (if t102 = true then ((spec_l03Lessened.f k l0_0 1).bind fun bt103 => ((spec_l03Turns.f k bt103.1).bind fun bt108 => (if bt108.2 = true then (some (bt108.1, 0)) else (some (([] : List Int), 4))))) else (some (([] : List Int), 1)))) = some (r1, r2) := h
 clear h
 replace H := Option.bind_eq_some_iff.mp H
 obtain ⟨t102, A20, H⟩ := H
 replace H : (if t102 = true then ((spec_l03Lessened.f k l0_0 1).bind fun bt103 => ((spec_l03Turns.f k bt103.1).bind fun bt108 => (if bt108.2 = true then (some (bt108.1, 0)) else (some (([] : List Int), 4))))) else (some (([] : List Int), 1))) = some (r1, r2) := H
 have A2 := Aside0.mk A20
 clear A20
 by_cases c3 : t102 = true
 ·
  subst c3
  have H1 : ((spec_l03Lessened.f k l0_0 1).bind fun bt103 => ((spec_l03Turns.f k bt103.1).bind fun bt108 => (if bt108.2 = true then (some (bt108.1, 0)) else (some (([] : List Int), 4))))) = some (r1, r2) := by rw [if_pos rfl] at H; exact H
  clear H
  have H := H1
  clear H1
  replace H := Option.bind_eq_some_iff.mp H
  obtain ⟨⟨t103, t106⟩, A40, H⟩ := H
  replace H : ((spec_l03Turns.f k t103).bind fun bt108 => (if bt108.2 = true then (some (bt108.1, 0)) else (some (([] : List Int), 4)))) = some (r1, r2) := H
  have A4 := Aside0.mk A40
  clear A40
  replace H := Option.bind_eq_some_iff.mp H
  obtain ⟨⟨t108, t111⟩, A50, H⟩ := H
  replace H : (if t111 = true then (some (t108, 0)) else (some (([] : List Int), 4))) = some (r1, r2) := H
  have A5 := Aside0.mk A50
  clear A50
  by_cases c6 : t111 = true
  ·
   subst c6
   have H1 : (some (t108, 0)) = some (r1, r2) := by rw [if_pos rfl] at H; exact H
   clear H
   have H := H1
   clear H1
   simp only [Option.some.injEq, Prod.mk.injEq] at H
   obtain ⟨rfl, rfl⟩ := H
   go_enter Try.func19, Try.ntmps19
   go_wp2_with (first | ((with_reducible refine gate_dst (N := 1) rfl ?_); refine box_event zr (N := 1) zr (cs := #[.slice A0_0 l0_0.length c0_0]) (t := 26) zg ?_; intro gb101 hg w7 hbox hb; have n_ := y4 (below_step (zB) hb) (hbox) ((zS hg : w.heap.size ≤ gb101)) ((zS hg : w.heap.size ≤ gb101)); clear HB; obtain ⟨HB, BK101, GW101, GE101⟩ := n_; clear hb hbox hg; have hcz8_0 := zc BK101.out; have hfz8_0 := blk_frozen BK101.out 0) | ((with_reducible refine gate_callee (f := 29) rfl ?_); refine goesL_ (some 9) rfl rfl Try.func29 zk rfl #[.agg #[.slice A0_0 l0_0.length c0_0]] rfl zA ?_; (with_reducible refine (spec_l01Is.calls k _ _ l0_0 true _ ?side1 ?side2 A2.out).mono ?_); (case side1 => exact zC (Kd.C_below HR0_0.out HB.out)); (case side2 => exact HC0_0.out); rintro e w9 ⟨rfl, hb⟩; refine ⟨_, rfl, ?_⟩; have n_ := y2 (zb BK101.out hb) (below_step (zB) hb); clear BK101 HB; obtain ⟨BK101, HB⟩ := n_; (try clear hb); (try clear hb2); (try clear hk); (try clear hi); have hcz10_0 := zc BK101.out; have hfz10_0 := blk_frozen BK101.out 0) | ((with_reducible refine gate_callee (f := 42) rfl ?_); refine goesL_ (some 13) rfl rfl Try.func42 zk rfl #[.agg #[.slice A0_0 l0_0.length c0_0], .int .i64 1] rfl zA ?_; (with_reducible refine (spec_l03Lessened.calls k _ _ l0_0 1 t103 t106 _ ?side1 ?side2 A4.out).mono ?_); (case side1 => exact zC (Kd.C_below HR0_0.out HB.out)); (case side2 => exact HC0_0.out); rintro e w11 ⟨v104, rfl, ho0, hb⟩; refine ⟨_, rfl, ?_⟩; have n_ := y3 (Kd.R_lower ho0 (below_size (zB))) (zb BK101.out hb) (below_step (zB) hb); clear BK101 HB; obtain ⟨HO105, BK101, HB⟩ := n_; (try clear hb); (try clear hb2); (try clear hk); (try clear hi); (try clear ho0)) | ((with_reducible refine gate_dst (N := 4) rfl ?_); refine box_event zr (N := 4) zr (cs := #[.slice none 0 0]) (t := 26) zg ?_; intro gb107 hg w12 hbox hb; have n_ := y8 (Kd.R_below (zR HO105.out) hb) (zb BK101.out hb) (below_step (zB) hb) (hbox) ((zS hg : w.heap.size ≤ gb107)) ((zS hg : w.heap.size ≤ gb107)) ((zL hg BK101.out : gb101 ≠ gb107)) ((zM hg BK101.out : gb107 ≠ gb101)); clear HO105 BK101 HB; obtain ⟨HO105, BK101, HB, BK107, GW107, GE107, NB101_107, NB107_101⟩ := n_; clear hb hbox hg; obtain ⟨Ao13, co13, eo13⟩ := Kd.R_slice HO105.out; subst eo13; have hnb14 := NB107_101.out; have hnc14 := NB101_107.out; have hcz15_0 := zc BK107.out; have hfz15_0 := blk_frozen BK107.out 0) | ((with_reducible refine gate_callee (f := 31) rfl ?_); refine goesL_ (some 18) rfl rfl Try.func31 zk rfl #[.agg #[.slice Ao13 t103.length co13]] rfl zA ?_; (with_reducible refine (spec_l03Turns.calls k _ _ t103 t108 true _ ?side1 ?side2 A5.out).mono ?_); (case side1 => refine (Kd.R_reads' (e := 2) (base := w.heap.size) (ok := fun k_ => True) (n := t103.length) (c := co13) ?_).2.2; exact (by refine zR ?_; exact (Kd.R_mono (Kd.R_far (p := ⟨gb107, 0, none⟩) (Kd.R_types HO105.out BK107.out (by decide)) (fun _ hk => hk.2) (.slice Ao13 t103.length co13)) (fun _ h_ => h_.1)))); (case side2 => exact (Kd.R_reads' HO105.out).2.1); rintro e w16 ⟨v109, rfl, ho0, hb⟩; refine ⟨_, rfl, ?_⟩; have n_ := y5 (Kd.R_elder' (by refine zR ?_; exact (Kd.R_mono (Kd.R_far (p := ⟨gb107, 0, none⟩) (Kd.R_types HO105.out BK107.out (by decide)) (fun _ hk => hk.2) (.slice Ao13 t103.length co13)) (fun _ h_ => h_.1))) (Kd.R_base ho0) hb) (Kd.R_lower (Kd.R_new' ho0 (Kd.R_lt (by refine zR ?_; exact (Kd.R_mono (Kd.R_far (p := ⟨gb107, 0, none⟩) (Kd.R_types HO105.out BK107.out (by decide)) (fun _ hk => hk.2) (.slice Ao13 t103.length co13)) (fun _ h_ => h_.1))))) (below_size (zB))) (blk_below (g := gb101) (o := .cells #[.slice A0_0 l0_0.length c0_0] 26 (0, 0)) (by refine zG ?_; refine blk_far ?_ NB101_107.out _; refine zG ?_; exact BK101.out) hb) (blk_below (g := gb107) (o := .cells #[.slice Ao13 t103.length co13] 26 (0, 0)) (by refine zG ?_; refine blk_put (cs := #[.slice none 0 0]) ?_ 0 _ rfl; refine zG ?_; exact BK107.out) hb) (below_step (zB) hb); clear HO105 BK101 BK107 HB; obtain ⟨HO105, HO110, BK101, BK107, HB⟩ := n_; (try clear hb); (try clear hb2); (try clear hk); (try clear hi); (try clear ho0)))
   go_ret2
   exact ⟨_, zE, by refine zR ?_; exact Kd.R_mono HO110.out (fun _ hk => trivial), zB⟩
  replace c6 := Bool.eq_false_iff.mpr c6
  subst c6
  have H1 : (some (([] : List Int), 4)) = some (r1, r2) := by rw [if_neg (show ¬ (false = true) by decide)] at H; exact H
  clear H
  have H := H1
  clear H1
  simp only [Option.some.injEq, Prod.mk.injEq] at H
  obtain ⟨rfl, rfl⟩ := H
  go_enter Try.func19, Try.ntmps19
  go_wp2_with (first | ((with_reducible refine gate_dst (N := 1) rfl ?_); refine box_event zr (N := 1) zr (cs := #[.slice A0_0 l0_0.length c0_0]) (t := 26) zg ?_; intro gb101 hg w17 hbox hb; have n_ := y4 (below_step (zB) hb) (hbox) ((zS hg : w.heap.size ≤ gb101)) ((zS hg : w.heap.size ≤ gb101)); clear HB; obtain ⟨HB, BK101, GW101, GE101⟩ := n_; clear hb hbox hg; have hcz18_0 := zc BK101.out; have hfz18_0 := blk_frozen BK101.out 0) | ((with_reducible refine gate_callee (f := 29) rfl ?_); refine goesL_ (some 9) rfl rfl Try.func29 zk rfl #[.agg #[.slice A0_0 l0_0.length c0_0]] rfl zA ?_; (with_reducible refine (spec_l01Is.calls k _ _ l0_0 true _ ?side1 ?side2 A2.out).mono ?_); (case side1 => exact zC (Kd.C_below HR0_0.out HB.out)); (case side2 => exact HC0_0.out); rintro e w19 ⟨rfl, hb⟩; refine ⟨_, rfl, ?_⟩; have n_ := y2 (zb BK101.out hb) (below_step (zB) hb); clear BK101 HB; obtain ⟨BK101, HB⟩ := n_; (try clear hb); (try clear hb2); (try clear hk); (try clear hi); have hcz20_0 := zc BK101.out; have hfz20_0 := blk_frozen BK101.out 0) | ((with_reducible refine gate_callee (f := 42) rfl ?_); refine goesL_ (some 13) rfl rfl Try.func42 zk rfl #[.agg #[.slice A0_0 l0_0.length c0_0], .int .i64 1] rfl zA ?_; (with_reducible refine (spec_l03Lessened.calls k _ _ l0_0 1 t103 t106 _ ?side1 ?side2 A4.out).mono ?_); (case side1 => exact zC (Kd.C_below HR0_0.out HB.out)); (case side2 => exact HC0_0.out); rintro e w21 ⟨v104, rfl, ho0, hb⟩; refine ⟨_, rfl, ?_⟩; have n_ := y3 (Kd.R_lower ho0 (below_size (zB))) (zb BK101.out hb) (below_step (zB) hb); clear BK101 HB; obtain ⟨HO105, BK101, HB⟩ := n_; (try clear hb); (try clear hb2); (try clear hk); (try clear hi); (try clear ho0)) | ((with_reducible refine gate_dst (N := 4) rfl ?_); refine box_event zr (N := 4) zr (cs := #[.slice none 0 0]) (t := 26) zg ?_; intro gb107 hg w22 hbox hb; have n_ := y8 (Kd.R_below (zR HO105.out) hb) (zb BK101.out hb) (below_step (zB) hb) (hbox) ((zS hg : w.heap.size ≤ gb107)) ((zS hg : w.heap.size ≤ gb107)) ((zL hg BK101.out : gb101 ≠ gb107)) ((zM hg BK101.out : gb107 ≠ gb101)); clear HO105 BK101 HB; obtain ⟨HO105, BK101, HB, BK107, GW107, GE107, NB101_107, NB107_101⟩ := n_; clear hb hbox hg; obtain ⟨Ao23, co23, eo23⟩ := Kd.R_slice HO105.out; subst eo23; have hnb24 := NB107_101.out; have hnc24 := NB101_107.out; have hcz25_0 := zc BK107.out; have hfz25_0 := blk_frozen BK107.out 0) | ((with_reducible refine gate_callee (f := 31) rfl ?_); refine goesL_ (some 18) rfl rfl Try.func31 zk rfl #[.agg #[.slice Ao23 t103.length co23]] rfl zA ?_; (with_reducible refine (spec_l03Turns.calls k _ _ t103 t108 false _ ?side1 ?side2 A5.out).mono ?_); (case side1 => refine (Kd.R_reads' (e := 2) (base := w.heap.size) (ok := fun k_ => True) (n := t103.length) (c := co23) ?_).2.2; exact (by refine zR ?_; exact (Kd.R_mono (Kd.R_far (p := ⟨gb107, 0, none⟩) (Kd.R_types HO105.out BK107.out (by decide)) (fun _ hk => hk.2) (.slice Ao23 t103.length co23)) (fun _ h_ => h_.1)))); (case side2 => exact (Kd.R_reads' HO105.out).2.1); rintro e w26 ⟨v109, rfl, ho0, hb⟩; refine ⟨_, rfl, ?_⟩; have n_ := y5 (Kd.R_elder' (by refine zR ?_; exact (Kd.R_mono (Kd.R_far (p := ⟨gb107, 0, none⟩) (Kd.R_types HO105.out BK107.out (by decide)) (fun _ hk => hk.2) (.slice Ao23 t103.length co23)) (fun _ h_ => h_.1))) (Kd.R_base ho0) hb) (Kd.R_lower (Kd.R_new' ho0 (Kd.R_lt (by refine zR ?_; exact (Kd.R_mono (Kd.R_far (p := ⟨gb107, 0, none⟩) (Kd.R_types HO105.out BK107.out (by decide)) (fun _ hk => hk.2) (.slice Ao23 t103.length co23)) (fun _ h_ => h_.1))))) (below_size (zB))) (blk_below (g := gb101) (o := .cells #[.slice A0_0 l0_0.length c0_0] 26 (0, 0)) (by refine zG ?_; refine blk_far ?_ NB101_107.out _; refine zG ?_; exact BK101.out) hb) (blk_below (g := gb107) (o := .cells #[.slice Ao23 t103.length co23] 26 (0, 0)) (by refine zG ?_; refine blk_put (cs := #[.slice none 0 0]) ?_ 0 _ rfl; refine zG ?_; exact BK107.out) hb) (below_step (zB) hb); clear HO105 BK101 BK107 HB; obtain ⟨HO105, HO110, BK101, BK107, HB⟩ := n_; (try clear hb); (try clear hb2); (try clear hk); (try clear hi); (try clear ho0)))
  go_ret2
  exact ⟨_, zE, zN, zB⟩
 replace c3 := Bool.eq_false_iff.mpr c3
 subst c3
 have H1 : (some (([] : List Int), 1)) = some (r1, r2) := by rw [if_neg (show ¬ (false = true) by decide)] at H; exact H
 clear H
 have H := H1
 clear H1
 simp only [Option.some.injEq, Prod.mk.injEq] at H
 obtain ⟨rfl, rfl⟩ := H
 go_enter Try.func19, Try.ntmps19
 go_wp2_with (first | ((with_reducible refine gate_dst (N := 1) rfl ?_); refine box_event zr (N := 1) zr (cs := #[.slice A0_0 l0_0.length c0_0]) (t := 26) zg ?_; intro gb101 hg w27 hbox hb; have n_ := y4 (below_step (zB) hb) (hbox) ((zS hg : w.heap.size ≤ gb101)) ((zS hg : w.heap.size ≤ gb101)); clear HB; obtain ⟨HB, BK101, GW101, GE101⟩ := n_; clear hb hbox hg; have hcz28_0 := zc BK101.out; have hfz28_0 := blk_frozen BK101.out 0) | ((with_reducible refine gate_callee (f := 29) rfl ?_); refine goesL_ (some 9) rfl rfl Try.func29 zk rfl #[.agg #[.slice A0_0 l0_0.length c0_0]] rfl zA ?_; (with_reducible refine (spec_l01Is.calls k _ _ l0_0 false _ ?side1 ?side2 A2.out).mono ?_); (case side1 => exact zC (Kd.C_below HR0_0.out HB.out)); (case side2 => exact HC0_0.out); rintro e w29 ⟨rfl, hb⟩; refine ⟨_, rfl, ?_⟩; have n_ := y2 (zb BK101.out hb) (below_step (zB) hb); clear BK101 HB; obtain ⟨BK101, HB⟩ := n_; (try clear hb); (try clear hb2); (try clear hk); (try clear hi)))
 go_ret2
 exact ⟨_, zE, zN, zB⟩
end Go.Proofs.Ytgbapmmfhdphmaa.P
end
section
namespace Go.Proofs.Ytgbapmmfhdphmaa.P
open Go.RowKit Go.Proofs.YtgbapmmfhdphmaaW.PrintWords Go.Proofs.YtgbapmmfhdphmaaW.PrintLast Go.Proofs.YtgbapmmfhdphmaaW.PrintMore
attribute [local go_sem] max2_int min2_int max_two min_two max_three min_three max_four min_four   -- for this text's walks alone
set_option linter.unusedVariables false
set_option linter.unusedSimpArgs false
def impl_TurnsByOne.l0 : Nat → Int → List Int → Option (List Int × Int × Int)
  | 0, _, _ => none
  | k + 1, x6, x102000 => (slices_Min_Sint64_int64.f k x102000).bind fun t103 => (if x6 ≤ t103 then ((impl_Tasks_lessened.f k x102000 x6).bind fun t104 => ((impl_Tasks_isThin.f k t104).bind fun t108 => (if t108 = true then ((impl_Tasks_harmonic.f k t104).bind fun t109 => (some (t109, x6, 0))) else (impl_TurnsByOne.l0 k (wrap64 (x6 + 1)) x102000)))) else (some (([] : List Int), 0, 4)))
def impl_TurnsByOne.f (k : Nat) (l0_0 : List Int) : Option (List Int × Int × Int) := (impl_tasksCode.f l0_0 true).bind fun t102 => (if t102 = 0 then (impl_TurnsByOne.l0 k 1 l0_0) else (some (([] : List Int), 0, t102)))
theorem impl_TurnsByOne.mono_l : ∀ k, (∀ y0 y1, LeO (impl_TurnsByOne.l0 k y0 y1) (impl_TurnsByOne.l0 (k + 1) y0 y1))
  | 0 => fun _ _ r h => by simp [impl_TurnsByOne.l0] at h
  | k + 1 => by
    have ih0 := impl_TurnsByOne.mono_l k
    · intro y0 y1
      unfold impl_TurnsByOne.l0
      repeat' first | (with_reducible exact ih0 _ _) | (with_reducible exact impl_Tasks_harmonic.mono _ _) | (with_reducible exact impl_Tasks_isThin.mono _ _) | (with_reducible exact impl_Tasks_lessened.mono _ _ _) | (with_reducible exact slices_Min_Sint64_int64.mono _ _) | (with_reducible exact LeO.refl _) | (with_reducible exact LeO.none _) | (with_reducible refine LeO.ite ?_ ?_) | (with_reducible refine LeO.bind ?_ (fun _ => ?_)) | exact ih0 _ _ | exact impl_Tasks_harmonic.mono _ _ | exact impl_Tasks_isThin.mono _ _ | exact impl_Tasks_lessened.mono _ _ _ | exact slices_Min_Sint64_int64.mono _ _ | exact LeO.none _ | refine LeO.ite ?_ ?_ | refine LeO.bind ?_ (fun _ => ?_)
theorem impl_TurnsByOne.mono : ∀ a0 k, LeO (impl_TurnsByOne.f k a0) (impl_TurnsByOne.f (k + 1) a0) := by
  intro a0 k
  have ih0 := impl_TurnsByOne.mono_l k
  unfold impl_TurnsByOne.f
  repeat' first | (with_reducible exact ih0 _ _) | (with_reducible exact impl_Tasks_harmonic.mono _ _) | (with_reducible exact impl_Tasks_isThin.mono _ _) | (with_reducible exact impl_Tasks_lessened.mono _ _ _) | (with_reducible exact slices_Min_Sint64_int64.mono _ _) | (with_reducible exact LeO.refl _) | (with_reducible exact LeO.none _) | (with_reducible refine LeO.ite ?_ ?_) | (with_reducible refine LeO.bind ?_ (fun _ => ?_)) | exact ih0 _ _ | exact impl_Tasks_harmonic.mono _ _ | exact impl_Tasks_isThin.mono _ _ | exact impl_Tasks_lessened.mono _ _ _ | exact slices_Min_Sint64_int64.mono _ _ | exact LeO.none _ | refine LeO.ite ?_ ?_ | refine LeO.bind ?_ (fun _ => ?_)
set_option maxHeartbeats 8000000 in
set_option maxRecDepth 100000 in
theorem impl_TurnsByOne.calls (k : Nat) (A0_0 : Option Addr) (c0_0 : Nat) (l0_0 : List Int) (r1 : List Int) (r2 : Int) (r3 : Int) (w : World) (hr0_0 : Kd.C (Kd.int .i64) w A0_0 l0_0.length l0_0) (hc0_0 : l0_0.length ≤ c0_0) (h : impl_TurnsByOne.f k l0_0 = some (r1, r2, r3)) :
    Calls Try.prog 20 #[.agg #[.slice A0_0 l0_0.length c0_0]] w fun e w' => ∃ v0_ : Value, e = .returned (.tuple #[v0_, .int .i64 r2, .int .i64 r3]) ∧ Kd.R (Kd.int .i64) 2 w' w.heap.size (fun _ => True) v0_ r1 ∧ Below w.heap.size w w' := by
 have hu26 := Try.underlying26
 have HR0_0 := Aside0.mk hr0_0
 have HC0_0 := Aside0.mk hc0_0
 clear hr0_0 hc0_0
 have HB := Aside0.mk (Below.refl w.heap.size w)
 have H : ((impl_tasksCode.f l0_0 true).bind fun t102 => (if t102 = 0 then (impl_TurnsByOne.l0 k 1 l0_0) else (some (([] : List Int), 0, t102)))) = some (r1, r2, r3) := h
 clear h
 replace H := Option.bind_eq_some_iff.mp H
 obtain ⟨t102, A20, H⟩ := H
 replace H : (if t102 = 0 then (impl_TurnsByOne.l0 k 1 l0_0) else (some (([] : List Int), 0, t102))) = some (r1, r2, r3) := H
 have A2 := Aside0.mk A20
 clear A20
 by_cases c3 : t102 = 0
 ·
  rw [if_pos c3] at H
  have c3b0 : (t102 == 0) = true := beq_iff_eq.mpr c3
  have c3b1 : (t102 != 0) = false := bne_eq_false_iff_eq.mpr c3
  clear c3
  have H' := Aside0.mk H
  clear H
  go_enter Try.func20, Try.ntmps20
  go_wp2_with (first | ((with_reducible refine gate_dst (N := 1) rfl ?_); refine box_event zr (N := 1) zr (cs := #[.slice A0_0 l0_0.length c0_0]) (t := 26) zg ?_; intro gb101 hg w4 hbox hb; have n_ := y4 (below_step (zB) hb) (hbox) ((zS hg : w.heap.size ≤ gb101)) ((zS hg : w.heap.size ≤ gb101)); clear HB; obtain ⟨HB, BK101, GW101, GE101⟩ := n_; clear hb hbox hg; have hcz5_0 := zc BK101.out; have hfz5_0 := blk_frozen BK101.out 0) | ((with_reducible refine gate_callee (f := 25) rfl ?_); refine goesL_ (some 9) rfl rfl Try.func25 zk rfl #[.agg #[.slice A0_0 l0_0.length c0_0], .bool true] rfl zA ?_; (with_reducible refine (impl_tasksCode.calls _ _ l0_0 true t102 _ ?side1 ?side2 A2.out).mono ?_); (case side1 => exact zC (Kd.C_below HR0_0.out HB.out)); (case side2 => exact HC0_0.out); rintro e w6 ⟨rfl, hb⟩; refine ⟨_, rfl, ?_⟩; have n_ := y2 (zb BK101.out hb) (below_step (zB) hb); clear BK101 HB; obtain ⟨BK101, HB⟩ := n_; (try clear hb); (try clear hb2); (try clear hk); (try clear hi)))
  go_loopg [6] k (fun kq v6 w' => ∃ (x6_1 : Int), v6 = .int .i64 x6_1 ∧ Aside0 (impl_TurnsByOne.l0 kq x6_1 l0_0 = some (r1, r2, r3)) ∧ Aside0 (kq ≤ k) ∧ Aside0 (w'.heap[gb101]? = some (.cells #[(.slice A0_0 l0_0.length c0_0)] 26 (0, 0))) ∧ Aside0 (Below w.heap.size w w'))
  case atStart => exact ⟨(1), zF, H', ⟨Nat.le_refl _⟩, ⟨zG BK101.out⟩, ⟨zB⟩⟩
  clear H'
  try clear c3
  try clear c3b0
  try clear c3b1
  try clear hcz5_0
  try clear hfz5_0
  obtain ⟨x6_1, rfl, HA, HK1, BK101, HB⟩ := hrel
  cases gk with
  | zero => exact absurd HA.out (by simp [impl_TurnsByOne.l0])
  | succ k1 =>
    have H := HA.out
    clear HA
    simp only [impl_TurnsByOne.l0] at H
    replace H := Option.bind_eq_some_iff.mp H
    obtain ⟨t103, A70, H⟩ := H
    replace H : (if x6_1 ≤ t103 then ((impl_Tasks_lessened.f k1 l0_0 x6_1).bind fun t104 => ((impl_Tasks_isThin.f k1 t104).bind fun t108 => (if t108 = true then ((impl_Tasks_harmonic.f k1 t104).bind fun t109 => (some (t109, x6_1, 0))) else (impl_TurnsByOne.l0 k1 (wrap64 (x6_1 + 1)) l0_0)))) else (some (([] : List Int), 0, 4))) = some (r1, r2, r3) := H
    have A7 := Aside0.mk A70
    clear A70
    by_cases c8 : x6_1 ≤ t103
    · rw [if_pos c8] at H
      have c8b0 : decide (x6_1 ≤ t103) = true := decide_eq_true c8
      clear c8
      replace H := Option.bind_eq_some_iff.mp H
      obtain ⟨t104, A90, H⟩ := H
      replace H : ((impl_Tasks_isThin.f k1 t104).bind fun t108 => (if t108 = true then ((impl_Tasks_harmonic.f k1 t104).bind fun t109 => (some (t109, x6_1, 0))) else (impl_TurnsByOne.l0 k1 (wrap64 (x6_1 + 1)) l0_0))) = some (r1, r2, r3) := H
      have A9 := Aside0.mk A90
      clear A90
      replace H := Option.bind_eq_some_iff.mp H
      obtain ⟨t108, A100, H⟩ := H
      replace H : (if t108 = true then ((impl_Tasks_harmonic.f k1 t104).bind fun t109 => (some (t109, x6_1, 0))) else (impl_TurnsByOne.l0 k1 (wrap64 (x6_1 + 1)) l0_0)) = some (r1, r2, r3) := H
      have A10 := Aside0.mk A100
      clear A100
      by_cases c11 : t108 = true
      · subst c11
        have H1 : ((impl_Tasks_harmonic.f k1 t104).bind fun t109 => (some (t109, x6_1, 0))) = some (r1, r2, r3) := by rw [if_pos rfl] at H; exact H
        clear H
        have H := H1
        clear H1
        replace H := Option.bind_eq_some_iff.mp H
        obtain ⟨t109, A120, H⟩ := H
        replace H : (some (t109, x6_1, 0)) = some (r1, r2, r3) := H
        have A12 := Aside0.mk A120
        clear A120
        simp only [Option.some.injEq, Prod.mk.injEq] at H
        obtain ⟨rfl, rfl, rfl⟩ := H
        have hcz13_0 := zc BK101.out
        have hfz13_0 := blk_frozen BK101.out 0
        go_wp2_with (first | ((with_reducible refine gate_callee (f := 39) rfl ?_); refine goesL_ (some 16) rfl rfl Try.func39 zk rfl #[.slice A0_0 l0_0.length c0_0] rfl zA ?_; (with_reducible refine (slices_Min_Sint64_int64.calls k1 _ _ l0_0 t103 _ ?side1 ?side2 A7.out).mono ?_); (case side1 => exact zC (Kd.C_below HR0_0.out HB.out)); (case side2 => exact HC0_0.out); rintro e w14 ⟨rfl, hb⟩; refine ⟨_, rfl, ?_⟩; have n_ := y2 (zb BK101.out hb) (below_step (zB) hb); clear BK101 HB; obtain ⟨BK101, HB⟩ := n_; (try clear hb); (try clear hb2); (try clear hk); (try clear hi); have hcz15_0 := zc BK101.out; have hfz15_0 := blk_frozen BK101.out 0) | ((with_reducible refine gate_callee (f := 40) rfl ?_); refine goesL_ (some 22) rfl rfl Try.func40 zk rfl #[.agg #[.slice A0_0 l0_0.length c0_0], .int .i64 x6_1] rfl zA ?_; (with_reducible refine (impl_Tasks_lessened.calls k1 _ _ l0_0 x6_1 t104 _ ?side1 ?side2 A9.out).mono ?_); (case side1 => exact zC (Kd.C_below HR0_0.out HB.out)); (case side2 => exact HC0_0.out); rintro e w16 ⟨v105, rfl, ho0, hb⟩; refine ⟨_, rfl, ?_⟩; have n_ := y3 (Kd.R_lower ho0 (below_size (zB))) (zb BK101.out hb) (below_step (zB) hb); clear BK101 HB; obtain ⟨HO106, BK101, HB⟩ := n_; (try clear hb); (try clear hb2); (try clear hk); (try clear hi); (try clear ho0)) | ((with_reducible refine gate_dst (N := 7) rfl ?_); refine box_event zr (N := 7) zr (cs := #[.slice none 0 0]) (t := 26) zg ?_; intro gb107 hg w17 hbox hb; have n_ := y8 (Kd.R_below (zR HO106.out) hb) (zb BK101.out hb) (below_step (zB) hb) (hbox) ((zS hg : w.heap.size ≤ gb107)) ((zS hg : w.heap.size ≤ gb107)) ((zL hg BK101.out : gb101 ≠ gb107)) ((zM hg BK101.out : gb107 ≠ gb101)); clear HO106 BK101 HB; obtain ⟨HO106, BK101, HB, BK107, GW107, GE107, NB101_107, NB107_101⟩ := n_; clear hb hbox hg; obtain ⟨Ao18, co18, eo18⟩ := Kd.R_slice HO106.out; subst eo18; have hnb19 := NB107_101.out; have hnc19 := NB101_107.out; have hcz20_0 := zc BK107.out; have hfz20_0 := blk_frozen BK107.out 0) | ((with_reducible refine gate_callee (f := 27) rfl ?_); refine goesL_ (some 24) rfl rfl Try.func27 zk rfl #[.agg #[.slice Ao18 t104.length co18]] rfl zA ?_; (with_reducible refine (impl_Tasks_isThin.calls k1 _ _ t104 true _ ?side1 ?side2 A10.out).mono ?_); (case side1 => refine (Kd.R_reads' (e := 2) (base := w.heap.size) (ok := fun k_ => True) (n := t104.length) (c := co18) ?_).2.2; exact (by refine zR ?_; exact (Kd.R_mono (Kd.R_far (p := ⟨gb107, 0, none⟩) (Kd.R_types HO106.out BK107.out (by decide)) (fun _ hk => hk.2) (.slice Ao18 t104.length co18)) (fun _ h_ => h_.1)))); (case side2 => exact (Kd.R_reads' HO106.out).2.1); rintro e w21 ⟨rfl, hb⟩; refine ⟨_, rfl, ?_⟩; have n_ := y4 (Kd.R_below (by refine zR ?_; exact (Kd.R_mono (Kd.R_far (p := ⟨gb107, 0, none⟩) (Kd.R_types HO106.out BK107.out (by decide)) (fun _ hk => hk.2) (.slice Ao18 t104.length co18)) (fun _ h_ => h_.1))) hb) (blk_below (g := gb101) (o := .cells #[.slice A0_0 l0_0.length c0_0] 26 (0, 0)) (by refine zG ?_; refine blk_far ?_ NB101_107.out _; refine zG ?_; exact BK101.out) hb) (blk_below (g := gb107) (o := .cells #[.slice Ao18 t104.length co18] 26 (0, 0)) (by refine zG ?_; refine blk_put (cs := #[.slice none 0 0]) ?_ 0 _ rfl; refine zG ?_; exact BK107.out) hb) (below_step (zB) hb); clear HO106 BK101 BK107 HB; obtain ⟨HO106, BK101, BK107, HB⟩ := n_; (try clear hb); (try clear hb2); (try clear hk); (try clear hi); have hcz22_0 := zc BK107.out; have hfz22_0 := blk_frozen BK107.out 0) | ((with_reducible refine gate_callee (f := 28) rfl ?_); refine goesL_ (some 26) rfl rfl Try.func28 zk rfl #[.agg #[.slice Ao18 t104.length co18]] rfl zA ?_; (with_reducible refine (impl_Tasks_harmonic.calls k1 _ _ t104 t109 _ ?side1 ?side2 A12.out).mono ?_); (case side1 => exact zC (Kd.R_reads' HO106.out).2.2); (case side2 => exact (Kd.R_reads' HO106.out).2.1); rintro e w23 ⟨v110, rfl, ho0, hb⟩; refine ⟨_, rfl, ?_⟩; have n_ := y5 (Kd.R_elder' (zR HO106.out) (Kd.R_base ho0) hb) (Kd.R_lower (Kd.R_new' ho0 (Kd.R_lt (zR HO106.out))) (below_size (zB))) (zb BK101.out hb) (zb BK107.out hb) (below_step (zB) hb); clear HO106 BK101 BK107 HB; obtain ⟨HO106, HO111, BK101, BK107, HB⟩ := n_; (try clear hb); (try clear hb2); (try clear hk); (try clear hi); (try clear ho0)))
        go_ret3
        exact ⟨_, zE, by refine zR ?_; exact Kd.R_mono HO111.out (fun _ hk => trivial), zB⟩
      · replace c11 := Bool.eq_false_iff.mpr c11
        subst c11
        have H1 : (impl_TurnsByOne.l0 k1 (wrap64 (x6_1 + 1)) l0_0) = some (r1, r2, r3) := by rw [if_neg (show ¬ (false = true) by decide)] at H; exact H
        clear H
        have H := H1
        clear H1
        have H' := Aside0.mk H
        clear H
        have hcz24_0 := zc BK101.out
        have hfz24_0 := blk_frozen BK101.out 0
        go_wp2_with (first | ((with_reducible refine gate_callee (f := 39) rfl ?_); refine goesL_ (some 16) rfl rfl Try.func39 zk rfl #[.slice A0_0 l0_0.length c0_0] rfl zA ?_; (with_reducible refine (slices_Min_Sint64_int64.calls k1 _ _ l0_0 t103 _ ?side1 ?side2 A7.out).mono ?_); (case side1 => exact zC (Kd.C_below HR0_0.out HB.out)); (case side2 => exact HC0_0.out); rintro e w25 ⟨rfl, hb⟩; refine ⟨_, rfl, ?_⟩; have n_ := y2 (zb BK101.out hb) (below_step (zB) hb); clear BK101 HB; obtain ⟨BK101, HB⟩ := n_; (try clear hb); (try clear hb2); (try clear hk); (try clear hi); have hcz26_0 := zc BK101.out; have hfz26_0 := blk_frozen BK101.out 0) | ((with_reducible refine gate_callee (f := 40) rfl ?_); refine goesL_ (some 22) rfl rfl Try.func40 zk rfl #[.agg #[.slice A0_0 l0_0.length c0_0], .int .i64 x6_1] rfl zA ?_; (with_reducible refine (impl_Tasks_lessened.calls k1 _ _ l0_0 x6_1 t104 _ ?side1 ?side2 A9.out).mono ?_); (case side1 => exact zC (Kd.C_below HR0_0.out HB.out)); (case side2 => exact HC0_0.out); rintro e w27 ⟨v105, rfl, ho0, hb⟩; refine ⟨_, rfl, ?_⟩; have n_ := y3 (Kd.R_lower ho0 (below_size (zB))) (zb BK101.out hb) (below_step (zB) hb); clear BK101 HB; obtain ⟨HO106, BK101, HB⟩ := n_; (try clear hb); (try clear hb2); (try clear hk); (try clear hi); (try clear ho0)) | ((with_reducible refine gate_dst (N := 7) rfl ?_); refine box_event zr (N := 7) zr (cs := #[.slice none 0 0]) (t := 26) zg ?_; intro gb107 hg w28 hbox hb; have n_ := y8 (Kd.R_below (zR HO106.out) hb) (zb BK101.out hb) (below_step (zB) hb) (hbox) ((zS hg : w.heap.size ≤ gb107)) ((zS hg : w.heap.size ≤ gb107)) ((zL hg BK101.out : gb101 ≠ gb107)) ((zM hg BK101.out : gb107 ≠ gb101)); clear HO106 BK101 HB; obtain ⟨HO106, BK101, HB, BK107, GW107, GE107, NB101_107, NB107_101⟩ := n_; clear hb hbox hg; obtain ⟨Ao29, co29, eo29⟩ := Kd.R_slice HO106.out; subst eo29; have hnb30 := NB107_101.out; have hnc30 := NB101_107.out; have hcz31_0 := zc BK107.out; have hfz31_0 := blk_frozen BK107.out 0) | ((with_reducible refine gate_callee (f := 27) rfl ?_); refine goesL_ (some 24) rfl rfl Try.func27 zk rfl #[.agg #[.slice Ao29 t104.length co29]] rfl zA ?_; (with_reducible refine (impl_Tasks_isThin.calls k1 _ _ t104 false _ ?side1 ?side2 A10.out).mono ?_); (case side1 => refine (Kd.R_reads' (e := 2) (base := w.heap.size) (ok := fun k_ => True) (n := t104.length) (c := co29) ?_).2.2; exact (by refine zR ?_; exact (Kd.R_mono (Kd.R_far (p := ⟨gb107, 0, none⟩) (Kd.R_types HO106.out BK107.out (by decide)) (fun _ hk => hk.2) (.slice Ao29 t104.length co29)) (fun _ h_ => h_.1)))); (case side2 => exact (Kd.R_reads' HO106.out).2.1); rintro e w32 ⟨rfl, hb⟩; refine ⟨_, rfl, ?_⟩; have n_ := y4 (Kd.R_below (by refine zR ?_; exact (Kd.R_mono (Kd.R_far (p := ⟨gb107, 0, none⟩) (Kd.R_types HO106.out BK107.out (by decide)) (fun _ hk => hk.2) (.slice Ao29 t104.length co29)) (fun _ h_ => h_.1))) hb) (blk_below (g := gb101) (o := .cells #[.slice A0_0 l0_0.length c0_0] 26 (0, 0)) (by refine zG ?_; refine blk_far ?_ NB101_107.out _; refine zG ?_; exact BK101.out) hb) (blk_below (g := gb107) (o := .cells #[.slice Ao29 t104.length co29] 26 (0, 0)) (by refine zG ?_; refine blk_put (cs := #[.slice none 0 0]) ?_ 0 _ rfl; refine zG ?_; exact BK107.out) hb) (below_step (zB) hb); clear HO106 BK101 BK107 HB; obtain ⟨HO106, BK101, BK107, HB⟩ := n_; (try clear hb); (try clear hb2); (try clear hk); (try clear hi)))
        go_roundg k1
        case measure => have := HK1.out; omega
        case rel => exact ⟨(wrap64 (x6_1 + 1)), zF, H', ⟨by have := HK1.out; omega⟩, ⟨zG BK101.out⟩, ⟨zB⟩⟩
    · rw [if_neg c8] at H
      have c8b0 : decide (x6_1 ≤ t103) = false := decide_eq_false c8
      clear c8
      simp only [Option.some.injEq, Prod.mk.injEq] at H
      obtain ⟨rfl, rfl, rfl⟩ := H
      have hcz33_0 := zc BK101.out
      have hfz33_0 := blk_frozen BK101.out 0
      go_wp2_with (first | ((with_reducible refine gate_callee (f := 39) rfl ?_); refine goesL_ (some 16) rfl rfl Try.func39 zk rfl #[.slice A0_0 l0_0.length c0_0] rfl zA ?_; (with_reducible refine (slices_Min_Sint64_int64.calls k1 _ _ l0_0 t103 _ ?side1 ?side2 A7.out).mono ?_); (case side1 => exact zC (Kd.C_below HR0_0.out HB.out)); (case side2 => exact HC0_0.out); rintro e w34 ⟨rfl, hb⟩; refine ⟨_, rfl, ?_⟩; have n_ := y2 (zb BK101.out hb) (below_step (zB) hb); clear BK101 HB; obtain ⟨BK101, HB⟩ := n_; (try clear hb); (try clear hb2); (try clear hk); (try clear hi)))
      go_ret3
      exact ⟨_, zE, zN, zB⟩
 rw [if_neg c3] at H
 have c3b0 : (t102 == 0) = false := beq_eq_false_iff_ne.mpr c3
 have c3b1 : (t102 != 0) = true := bne_iff_ne.mpr c3
 simp only [Option.some.injEq, Prod.mk.injEq] at H
 obtain ⟨rfl, rfl, rfl⟩ := H
 go_enter Try.func20, Try.ntmps20
 go_wp2_with (first | ((with_reducible refine gate_dst (N := 1) rfl ?_); refine box_event zr (N := 1) zr (cs := #[.slice A0_0 l0_0.length c0_0]) (t := 26) zg ?_; intro gb101 hg w35 hbox hb; have n_ := y4 (below_step (zB) hb) (hbox) ((zS hg : w.heap.size ≤ gb101)) ((zS hg : w.heap.size ≤ gb101)); clear HB; obtain ⟨HB, BK101, GW101, GE101⟩ := n_; clear hb hbox hg; have hcz36_0 := zc BK101.out; have hfz36_0 := blk_frozen BK101.out 0) | ((with_reducible refine gate_callee (f := 25) rfl ?_); refine goesL_ (some 9) rfl rfl Try.func25 zk rfl #[.agg #[.slice A0_0 l0_0.length c0_0], .bool true] rfl zA ?_; (with_reducible refine (impl_tasksCode.calls _ _ l0_0 true t102 _ ?side1 ?side2 A2.out).mono ?_); (case side1 => exact zC (Kd.C_below HR0_0.out HB.out)); (case side2 => exact HC0_0.out); rintro e w37 ⟨rfl, hb⟩; refine ⟨_, rfl, ?_⟩; have n_ := y2 (zb BK101.out hb) (below_step (zB) hb); clear BK101 HB; obtain ⟨BK101, HB⟩ := n_; (try clear hb); (try clear hb2); (try clear hk); (try clear hi)))
 go_ret3
 exact ⟨_, zE, zN, zB⟩
end Go.Proofs.Ytgbapmmfhdphmaa.P
end
section
namespace Go.Proofs.Ytgbapmmfhdphmaa.P
open Go.RowKit Go.Proofs.YtgbapmmfhdphmaaW.PrintWords Go.Proofs.YtgbapmmfhdphmaaW.PrintLast Go.Proofs.YtgbapmmfhdphmaaW.PrintMore
attribute [local go_sem] max2_int min2_int max_two min_two max_three min_three max_four min_four   -- for this text's walks alone
set_option linter.unusedVariables false
set_option linter.unusedSimpArgs false
def spec_TurnsByOne.l0 : Nat → Int → List Int → Option (List Int × Int × Int)
  | 0, _, _ => none
  | k + 1, x5, x102000 => (spec_l03Lessened.f k x102000 x5).bind fun bt103 => (if bt103.2 = true then ((spec_l03Turns.f k bt103.1).bind fun bt108 => (if bt108.2 = true then (some (bt108.1, x5, 0)) else (spec_TurnsByOne.l0 k (wrap64 (x5 + 1)) x102000))) else (some (([] : List Int), 0, 4)))
def spec_TurnsByOne.f (k : Nat) (l0_0 : List Int) : Option (List Int × Int × Int) := (spec_l01Is.f k l0_0).bind fun t102 => (if t102 = true then (spec_TurnsByOne.l0 k 1 l0_0) else (some (([] : List Int), 0, 1)))
theorem spec_TurnsByOne.mono_l : ∀ k, (∀ y0 y1, LeO (spec_TurnsByOne.l0 k y0 y1) (spec_TurnsByOne.l0 (k + 1) y0 y1))
  | 0 => fun _ _ r h => by simp [spec_TurnsByOne.l0] at h
  | k + 1 => by
    have ih0 := spec_TurnsByOne.mono_l k
    · intro y0 y1
      unfold spec_TurnsByOne.l0
      repeat' first | (with_reducible exact ih0 _ _) | (with_reducible exact spec_l01Is.mono _ _) | (with_reducible exact spec_l03Lessened.mono _ _ _) | (with_reducible exact spec_l03Turns.mono _ _) | (with_reducible exact LeO.refl _) | (with_reducible exact LeO.none _) | (with_reducible refine LeO.ite ?_ ?_) | (with_reducible refine LeO.bind ?_ (fun _ => ?_)) | exact ih0 _ _ | exact spec_l01Is.mono _ _ | exact spec_l03Lessened.mono _ _ _ | exact spec_l03Turns.mono _ _ | exact LeO.none _ | refine LeO.ite ?_ ?_ | refine LeO.bind ?_ (fun _ => ?_)
theorem spec_TurnsByOne.mono : ∀ a0 k, LeO (spec_TurnsByOne.f k a0) (spec_TurnsByOne.f (k + 1) a0) := by
  intro a0 k
  have ih0 := spec_TurnsByOne.mono_l k
  unfold spec_TurnsByOne.f
  repeat' first | (with_reducible exact ih0 _ _) | (with_reducible exact spec_l01Is.mono _ _) | (with_reducible exact spec_l03Lessened.mono _ _ _) | (with_reducible exact spec_l03Turns.mono _ _) | (with_reducible exact LeO.refl _) | (with_reducible exact LeO.none _) | (with_reducible refine LeO.ite ?_ ?_) | (with_reducible refine LeO.bind ?_ (fun _ => ?_)) | exact ih0 _ _ | exact spec_l01Is.mono _ _ | exact spec_l03Lessened.mono _ _ _ | exact spec_l03Turns.mono _ _ | exact LeO.none _ | refine LeO.ite ?_ ?_ | refine LeO.bind ?_ (fun _ => ?_)
set_option maxHeartbeats 8000000 in
set_option maxRecDepth 100000 in
theorem spec_TurnsByOne.calls (k : Nat) (A0_0 : Option Addr) (c0_0 : Nat) (l0_0 : List Int) (r1 : List Int) (r2 : Int) (r3 : Int) (w : World) (hr0_0 : Kd.C (Kd.int .i64) w A0_0 l0_0.length l0_0) (hc0_0 : l0_0.length ≤ c0_0) (h : spec_TurnsByOne.f k l0_0 = some (r1, r2, r3)) :
    Calls Try.prog 21 #[.agg #[.slice A0_0 l0_0.length c0_0]] w fun e w' => ∃ v0_ : Value, e = .returned (.tuple #[v0_, .int .i64 r2, .int .i64 r3]) ∧ Kd.R (Kd.int .i64) 2 w' w.heap.size (fun _ => True) v0_ r1 ∧ Below w.heap.size w w' := by
 have hu26 := Try.underlying26
 have HR0_0 := Aside0.mk hr0_0
 have HC0_0 := Aside0.mk hc0_0
 clear hr0_0 hc0_0
 have HB := Aside0.mk (Below.refl w.heap.size w)
 have H : ((spec_l01Is.f k l0_0).bind fun t102 => (if t102 = true then (spec_TurnsByOne.l0 k 1 l0_0) else (some (([] : List Int), 0, 1)))) = some (r1, r2, r3) := h
 clear h
 replace H := Option.bind_eq_some_iff.mp H
 obtain ⟨t102, A20, H⟩ := H
 replace H : (if t102 = true then (spec_TurnsByOne.l0 k 1 l0_0) else (some (([] : List Int), 0, 1))) = some (r1, r2, r3) := H
 have A2 := Aside0.mk A20
 clear A20
 by_cases c3 : t102 = true
 ·
  subst c3
  have H1 : (spec_TurnsByOne.l0 k 1 l0_0) = some (r1, r2, r3) := by rw [if_pos rfl] at H; exact H
  clear H
  have H := H1
  clear H1
  have H' := Aside0.mk H
  clear H
  go_enter Try.func21, Try.ntmps21
  go_wp2_with (first | ((with_reducible refine gate_dst (N := 1) rfl ?_); refine box_event zr (N := 1) zr (cs := #[.slice A0_0 l0_0.length c0_0]) (t := 26) zg ?_; intro gb101 hg w4 hbox hb; have n_ := y4 (below_step (zB) hb) (hbox) ((zS hg : w.heap.size ≤ gb101)) ((zS hg : w.heap.size ≤ gb101)); clear HB; obtain ⟨HB, BK101, GW101, GE101⟩ := n_; clear hb hbox hg; have hcz5_0 := zc BK101.out; have hfz5_0 := blk_frozen BK101.out 0) | ((with_reducible refine gate_callee (f := 29) rfl ?_); refine goesL_ (some 11) rfl rfl Try.func29 zk rfl #[.agg #[.slice A0_0 l0_0.length c0_0]] rfl zA ?_; (with_reducible refine (spec_l01Is.calls k _ _ l0_0 true _ ?side1 ?side2 A2.out).mono ?_); (case side1 => exact zC (Kd.C_below HR0_0.out HB.out)); (case side2 => exact HC0_0.out); rintro e w6 ⟨rfl, hb⟩; refine ⟨_, rfl, ?_⟩; have n_ := y2 (zb BK101.out hb) (below_step (zB) hb); clear BK101 HB; obtain ⟨BK101, HB⟩ := n_; (try clear hb); (try clear hb2); (try clear hk); (try clear hi)))
  go_loopg [5] k (fun kq v5 w' => ∃ (x5_1 : Int), v5 = .int .i64 x5_1 ∧ Aside0 (spec_TurnsByOne.l0 kq x5_1 l0_0 = some (r1, r2, r3)) ∧ Aside0 (kq ≤ k) ∧ Aside0 (w'.heap[gb101]? = some (.cells #[(.slice A0_0 l0_0.length c0_0)] 26 (0, 0))) ∧ Aside0 (Below w.heap.size w w'))
  case atStart => exact ⟨(1), zF, H', ⟨Nat.le_refl _⟩, ⟨zG BK101.out⟩, ⟨zB⟩⟩
  clear H'
  try clear c3
  try clear hcz5_0
  try clear hfz5_0
  obtain ⟨x5_1, rfl, HA, HK1, BK101, HB⟩ := hrel
  cases gk with
  | zero => exact absurd HA.out (by simp [spec_TurnsByOne.l0])
  | succ k1 =>
    have H := HA.out
    clear HA
    simp only [spec_TurnsByOne.l0] at H
    replace H := Option.bind_eq_some_iff.mp H
    obtain ⟨⟨t103, t106⟩, A70, H⟩ := H
    replace H : (if t106 = true then ((spec_l03Turns.f k1 t103).bind fun bt108 => (if bt108.2 = true then (some (bt108.1, x5_1, 0)) else (spec_TurnsByOne.l0 k1 (wrap64 (x5_1 + 1)) l0_0))) else (some (([] : List Int), 0, 4))) = some (r1, r2, r3) := H
    have A7 := Aside0.mk A70
    clear A70
    by_cases c8 : t106 = true
    · subst c8
      have H1 : ((spec_l03Turns.f k1 t103).bind fun bt108 => (if bt108.2 = true then (some (bt108.1, x5_1, 0)) else (spec_TurnsByOne.l0 k1 (wrap64 (x5_1 + 1)) l0_0))) = some (r1, r2, r3) := by rw [if_pos rfl] at H; exact H
      clear H
      have H := H1
      clear H1
      replace H := Option.bind_eq_some_iff.mp H
      obtain ⟨⟨t108, t111⟩, A90, H⟩ := H
      replace H : (if t111 = true then (some (t108, x5_1, 0)) else (spec_TurnsByOne.l0 k1 (wrap64 (x5_1 + 1)) l0_0)) = some (r1, r2, r3) := H
      have A9 := Aside0.mk A90
      clear A90
      by_cases c10 : t111 = true
      · subst c10
        have H1 : (some (t108, x5_1, 0)) = some (r1, r2, r3) := by rw [if_pos rfl] at H; exact H
        clear H
        have H := H1
        clear H1
        simp only [Option.some.injEq, Prod.mk.injEq] at H
        obtain ⟨rfl, rfl, rfl⟩ := H
        have hcz11_0 := zc BK101.out
        have hfz11_0 := blk_frozen BK101.out 0
        go_wp2_with (first | ((with_reducible refine gate_callee (f := 42) rfl ?_); refine goesL_ (some 18) rfl rfl Try.func42 zk rfl #[.agg #[.slice A0_0 l0_0.length c0_0], .int .i64 x5_1] rfl zA ?_; (with_reducible refine (spec_l03Lessened.calls k1 _ _ l0_0 x5_1 t103 true _ ?side1 ?side2 A7.out).mono ?_); (case side1 => exact zC (Kd.C_below HR0_0.out HB.out)); (case side2 => exact HC0_0.out); rintro e w12 ⟨v104, rfl, ho0, hb⟩; refine ⟨_, rfl, ?_⟩; have n_ := y3 (Kd.R_lower ho0 (below_size (zB))) (zb BK101.out hb) (below_step (zB) hb); clear BK101 HB; obtain ⟨HO105, BK101, HB⟩ := n_; (try clear hb); (try clear hb2); (try clear hk); (try clear hi); (try clear ho0)) | ((with_reducible refine gate_dst (N := 6) rfl ?_); refine box_event zr (N := 6) zr (cs := #[.slice none 0 0]) (t := 26) zg ?_; intro gb107 hg w13 hbox hb; have n_ := y8 (Kd.R_below (zR HO105.out) hb) (zb BK101.out hb) (below_step (zB) hb) (hbox) ((zS hg : w.heap.size ≤ gb107)) ((zS hg : w.heap.size ≤ gb107)) ((zL hg BK101.out : gb101 ≠ gb107)) ((zM hg BK101.out : gb107 ≠ gb101)); clear HO105 BK101 HB; obtain ⟨HO105, BK101, HB, BK107, GW107, GE107, NB101_107, NB107_101⟩ := n_; clear hb hbox hg; obtain ⟨Ao14, co14, eo14⟩ := Kd.R_slice HO105.out; subst eo14; have hnb15 := NB107_101.out; have hnc15 := NB101_107.out; have hcz16_0 := zc BK107.out; have hfz16_0 := blk_frozen BK107.out 0) | ((with_reducible refine gate_callee (f := 31) rfl ?_); refine goesL_ (some 25) rfl rfl Try.func31 zk rfl #[.agg #[.slice Ao14 t103.length co14]] rfl zA ?_; (with_reducible refine (spec_l03Turns.calls k1 _ _ t103 t108 true _ ?side1 ?side2 A9.out).mono ?_); (case side1 => refine (Kd.R_reads' (e := 2) (base := w.heap.size) (ok := fun k_ => True) (n := t103.length) (c := co14) ?_).2.2; exact (by refine zR ?_; exact (Kd.R_mono (Kd.R_far (p := ⟨gb107, 0, none⟩) (Kd.R_types HO105.out BK107.out (by decide)) (fun _ hk => hk.2) (.slice Ao14 t103.length co14)) (fun _ h_ => h_.1)))); (case side2 => exact (Kd.R_reads' HO105.out).2.1); rintro e w17 ⟨v109, rfl, ho0, hb⟩; refine ⟨_, rfl, ?_⟩; have n_ := y5 (Kd.R_elder' (by refine zR ?_; exact (Kd.R_mono (Kd.R_far (p := ⟨gb107, 0, none⟩) (Kd.R_types HO105.out BK107.out (by decide)) (fun _ hk => hk.2) (.slice Ao14 t103.length co14)) (fun _ h_ => h_.1))) (Kd.R_base ho0) hb) (Kd.R_lower (Kd.R_new' ho0 (Kd.R_lt (by refine zR ?_; exact (Kd.R_mono (Kd.R_far (p := ⟨gb107, 0, none⟩) (Kd.R_types HO105.out BK107.out (by decide)) (fun _ hk => hk.2) (.slice Ao14 t103.length co14)) (fun _ h_ => h_.1))))) (below_size (zB))) (blk_below (g := gb101) (o := .cells #[.slice A0_0 l0_0.length c0_0] 26 (0, 0)) (by refine zG ?_; refine blk_far ?_ NB101_107.out _; refine zG ?_; exact BK101.out) hb) (blk_below (g := gb107) (o := .cells #[.slice Ao14 t103.length co14] 26 (0, 0)) (by refine zG ?_; refine blk_put (cs := #[.slice none 0 0]) ?_ 0 _ rfl; refine zG ?_; exact BK107.out) hb) (below_step (zB) hb); clear HO105 BK101 BK107 HB; obtain ⟨HO105, HO110, BK101, BK107, HB⟩ := n_; (try clear hb); (try clear hb2); (try clear hk); (try clear hi); (try clear ho0)))
        go_ret3
        exact ⟨_, zE, by refine zR ?_; exact Kd.R_mono HO110.out (fun _ hk => trivial), zB⟩
      · replace c10 := Bool.eq_false_iff.mpr c10
        subst c10
        have H1 : (spec_TurnsByOne.l0 k1 (wrap64 (x5_1 + 1)) l0_0) = some (r1, r2, r3) := by rw [if_neg (show ¬ (false = true) by decide)] at H; exact H
        clear H
        have H := H1
        clear H1
        have H' := Aside0.mk H
        clear H
        have hcz18_0 := zc BK101.out
        have hfz18_0 := blk_frozen BK101.out 0
        go_wp2_with (first | ((with_reducible refine gate_callee (f := 42) rfl ?_); refine goesL_ (some 18) rfl rfl Try.func42 zk rfl #[.agg #[.slice A0_0 l0_0.length c0_0], .int .i64 x5_1] rfl zA ?_; (with_reducible refine (spec_l03Lessened.calls k1 _ _ l0_0 x5_1 t103 true _ ?side1 ?side2 A7.out).mono ?_); (case side1 => exact zC (Kd.C_below HR0_0.out HB.out)); (case side2 => exact HC0_0.out); rintro e w19 ⟨v104, rfl, ho0, hb⟩; refine ⟨_, rfl, ?_⟩; have n_ := y3 (Kd.R_lower ho0 (below_size (zB))) (zb BK101.out hb) (below_step (zB) hb); clear BK101 HB; obtain ⟨HO105, BK101, HB⟩ := n_; (try clear hb); (try clear hb2); (try clear hk); (try clear hi); (try clear ho0)) | ((with_reducible refine gate_dst (N := 6) rfl ?_); refine box_event zr (N := 6) zr (cs := #[.slice none 0 0]) (t := 26) zg ?_; intro gb107 hg w20 hbox hb; have n_ := y8 (Kd.R_below (zR HO105.out) hb) (zb BK101.out hb) (below_step (zB) hb) (hbox) ((zS hg : w.heap.size ≤ gb107)) ((zS hg : w.heap.size ≤ gb107)) ((zL hg BK101.out : gb101 ≠ gb107)) ((zM hg BK101.out : gb107 ≠ gb101)); clear HO105 BK101 HB; obtain ⟨HO105, BK101, HB, BK107, GW107, GE107, NB101_107, NB107_101⟩ := n_; clear hb hbox hg; obtain ⟨Ao21, co21, eo21⟩ := Kd.R_slice HO105.out; subst eo21; have hnb22 := NB107_101.out; have hnc22 := NB101_107.out; have hcz23_0 := zc BK107.out; have hfz23_0 := blk_frozen BK107.out 0) | ((with_reducible refine gate_callee (f := 31) rfl ?_); refine goesL_ (some 25) rfl rfl Try.func31 zk rfl #[.agg #[.slice Ao21 t103.length co21]] rfl zA ?_; (with_reducible refine (spec_l03Turns.calls k1 _ _ t103 t108 false _ ?side1 ?side2 A9.out).mono ?_); (case side1 => refine (Kd.R_reads' (e := 2) (base := w.heap.size) (ok := fun k_ => True) (n := t103.length) (c := co21) ?_).2.2; exact (by refine zR ?_; exact (Kd.R_mono (Kd.R_far (p := ⟨gb107, 0, none⟩) (Kd.R_types HO105.out BK107.out (by decide)) (fun _ hk => hk.2) (.slice Ao21 t103.length co21)) (fun _ h_ => h_.1)))); (case side2 => exact (Kd.R_reads' HO105.out).2.1); rintro e w24 ⟨v109, rfl, ho0, hb⟩; refine ⟨_, rfl, ?_⟩; have n_ := y5 (Kd.R_elder' (by refine zR ?_; exact (Kd.R_mono (Kd.R_far (p := ⟨gb107, 0, none⟩) (Kd.R_types HO105.out BK107.out (by decide)) (fun _ hk => hk.2) (.slice Ao21 t103.length co21)) (fun _ h_ => h_.1))) (Kd.R_base ho0) hb) (Kd.R_lower (Kd.R_new' ho0 (Kd.R_lt (by refine zR ?_; exact (Kd.R_mono (Kd.R_far (p := ⟨gb107, 0, none⟩) (Kd.R_types HO105.out BK107.out (by decide)) (fun _ hk => hk.2) (.slice Ao21 t103.length co21)) (fun _ h_ => h_.1))))) (below_size (zB))) (blk_below (g := gb101) (o := .cells #[.slice A0_0 l0_0.length c0_0] 26 (0, 0)) (by refine zG ?_; refine blk_far ?_ NB101_107.out _; refine zG ?_; exact BK101.out) hb) (blk_below (g := gb107) (o := .cells #[.slice Ao21 t103.length co21] 26 (0, 0)) (by refine zG ?_; refine blk_put (cs := #[.slice none 0 0]) ?_ 0 _ rfl; refine zG ?_; exact BK107.out) hb) (below_step (zB) hb); clear HO105 BK101 BK107 HB; obtain ⟨HO105, HO110, BK101, BK107, HB⟩ := n_; (try clear hb); (try clear hb2); (try clear hk); (try clear hi); (try clear ho0)))
        go_roundg k1
        case measure => have := HK1.out; omega
        case rel => exact ⟨(wrap64 (x5_1 + 1)), zF, H', ⟨by have := HK1.out; omega⟩, ⟨zG BK101.out⟩, ⟨zB⟩⟩
    · replace c8 := Bool.eq_false_iff.mpr c8
      subst c8
      have H1 : (some (([] : List Int), 0, 4)) = some (r1, r2, r3) := by rw [if_neg (show ¬ (false = true) by decide)] at H; exact H
      clear H
      have H := H1
      clear H1
      simp only [Option.some.injEq, Prod.mk.injEq] at H
      obtain ⟨rfl, rfl, rfl⟩ := H
      have hcz25_0 := zc BK101.out
      have hfz25_0 := blk_frozen BK101.out 0
      go_wp2_with (first | ((with_reducible refine gate_callee (f := 42) rfl ?_); refine goesL_ (some 18) rfl rfl Try.func42 zk rfl #[.agg #[.slice A0_0 l0_0.length c0_0], .int .i64 x5_1] rfl zA ?_; (with_reducible refine (spec_l03Lessened.calls k1 _ _ l0_0 x5_1 t103 false _ ?side1 ?side2 A7.out).mono ?_); (case side1 => exact zC (Kd.C_below HR0_0.out HB.out)); (case side2 => exact HC0_0.out); rintro e w26 ⟨v104, rfl, ho0, hb⟩; refine ⟨_, rfl, ?_⟩; have n_ := y3 (Kd.R_lower ho0 (below_size (zB))) (zb BK101.out hb) (below_step (zB) hb); clear BK101 HB; obtain ⟨HO105, BK101, HB⟩ := n_; (try clear hb); (try clear hb2); (try clear hk); (try clear hi); (try clear ho0)) | ((with_reducible refine gate_dst (N := 6) rfl ?_); refine box_event zr (N := 6) zr (cs := #[.slice none 0 0]) (t := 26) zg ?_; intro gb107 hg w27 hbox hb; have n_ := y8 (Kd.R_below (zR HO105.out) hb) (zb BK101.out hb) (below_step (zB) hb) (hbox) ((zS hg : w.heap.size ≤ gb107)) ((zS hg : w.heap.size ≤ gb107)) ((zL hg BK101.out : gb101 ≠ gb107)) ((zM hg BK101.out : gb107 ≠ gb101)); clear HO105 BK101 HB; obtain ⟨HO105, BK101, HB, BK107, GW107, GE107, NB101_107, NB107_101⟩ := n_; clear hb hbox hg; obtain ⟨Ao28, co28, eo28⟩ := Kd.R_slice HO105.out; subst eo28; have hnb29 := NB107_101.out; have hnc29 := NB101_107.out; have hcz30_0 := zc BK107.out; have hfz30_0 := blk_frozen BK107.out 0))
      go_ret3
      exact ⟨_, zE, zN, zB⟩
 replace c3 := Bool.eq_false_iff.mpr c3
 subst c3
 have H1 : (some (([] : List Int), 0, 1)) = some (r1, r2, r3) := by rw [if_neg (show ¬ (false = true) by decide)] at H; exact H
 clear H
 have H := H1
 clear H1
 simp only [Option.some.injEq, Prod.mk.injEq] at H
 obtain ⟨rfl, rfl, rfl⟩ := H
 go_enter Try.func21, Try.ntmps21
 go_wp2_with (first | ((with_reducible refine gate_dst (N := 1) rfl ?_); refine box_event zr (N := 1) zr (cs := #[.slice A0_0 l0_0.length c0_0]) (t := 26) zg ?_; intro gb101 hg w31 hbox hb; have n_ := y4 (below_step (zB) hb) (hbox) ((zS hg : w.heap.size ≤ gb101)) ((zS hg : w.heap.size ≤ gb101)); clear HB; obtain ⟨HB, BK101, GW101, GE101⟩ := n_; clear hb hbox hg; have hcz32_0 := zc BK101.out; have hfz32_0 := blk_frozen BK101.out 0) | ((with_reducible refine gate_callee (f := 29) rfl ?_); refine goesL_ (some 11) rfl rfl Try.func29 zk rfl #[.agg #[.slice A0_0 l0_0.length c0_0]] rfl zA ?_; (with_reducible refine (spec_l01Is.calls k _ _ l0_0 false _ ?side1 ?side2 A2.out).mono ?_); (case side1 => exact zC (Kd.C_below HR0_0.out HB.out)); (case side2 => exact HC0_0.out); rintro e w33 ⟨rfl, hb⟩; refine ⟨_, rfl, ?_⟩; have n_ := y2 (zb BK101.out hb) (below_step (zB) hb); clear BK101 HB; obtain ⟨BK101, HB⟩ := n_; (try clear hb); (try clear hb2); (try clear hk); (try clear hi)))
 go_ret3
 exact ⟨_, zE, zN, zB⟩
end Go.Proofs.Ytgbapmmfhdphmaa.P
end
section
namespace Go.Proofs.Ytgbapmmfhdphmaa.P
open Go.RowKit Go.Proofs.YtgbapmmfhdphmaaW.PrintWords Go.Proofs.YtgbapmmfhdphmaaW.PrintLast Go.Proofs.YtgbapmmfhdphmaaW.PrintMore
attribute [local go_sem] max2_int min2_int max_two min_two max_three min_three max_four min_four   -- for this text's walks alone
set_option linter.unusedVariables false
set_option linter.unusedSimpArgs false
mutual
def laws_FnHarmonic.j0 : Nat → List Int → List Int → Int → Bool → Int → Bool → List Int → Option (Bool)
  | 0, _, _, _, _, _, _, _ => none
  | k + 1, x0, x4, x5, x8, x9, x83, x106000 => if x83 = true then (some false) else (if x9 = 0 then ((impl_DensityOf.f k x106000).bind fun bt119 => (if bt119.2.2 = 0 then (if (x8 != (x5 != 5)) = true then (some false) else (if x8 = true then (if ((x5 == 0) != (decide (bt119.1 ≤ bt119.2.1))) = true then (some false) else (laws_FnHarmonic.j1 k x0 x4 x5 x106000)) else (laws_FnHarmonic.j1 k x0 x4 x5 x106000))) else (some false))) else (laws_FnHarmonic.j1 k x0 x4 x5 x106000))
def laws_FnHarmonic.j1 : Nat → List Int → List Int → Int → List Int → Option (Bool)
  | 0, _, _, _, _ => none
  | k + 1, x0, x4, x5, x106000 => if x5 = 0 then ((impl_DoServe.f k x106000 x4).bind fun bt122 => (if bt122.2 = 0 then (if bt122.1 = true then (laws_FnHarmonic.j2 k x0) else (some false)) else (some false))) else (laws_FnHarmonic.j2 k x0)
def laws_FnHarmonic.j2 : Nat → List Int → Option (Bool)
  | 0, _ => none
  | k + 1, x0 => (spec_DrawLessenGaps.f k x0).bind fun bt124 => ((impl_LessenGaps.f k bt124.1 bt124.2).bind fun bt129 => ((spec_LessenGaps.f k bt124.1 bt124.2).bind fun bt134 => (if bt129.2 = bt134.2 then ((laws_tasks5.f k bt129.1 bt134.1).bind fun t139 => (laws_FnHarmonic.j3 k x0 bt124.2 bt129.2 (!t139) bt124.1 bt129.1)) else (laws_FnHarmonic.j3 k x0 bt124.2 bt129.2 true bt124.1 bt129.1))))
def laws_FnHarmonic.j3 : Nat → List Int → Int → Int → Bool → List Int → List Int → Option (Bool)
  | 0, _, _, _, _, _, _ => none
  | k + 1, x0, x18, x20, x150, x129000, x134000 => if x150 = true then (some false) else (if x20 = 0 then ((impl_AreHarmonic.f x134000).bind fun bt140 => (if bt140.2 = 0 then (if bt140.1 = true then (laws_FnHarmonic.j4 k x0 x18 ((x134000.length : Int) != (x129000.length : Int)) x129000 x134000) else (laws_FnHarmonic.j4 k x0 x18 true x129000 x134000)) else (laws_FnHarmonic.j4 k x0 x18 true x129000 x134000))) else (laws_FnHarmonic.j6 k x0))
def laws_FnHarmonic.j6 : Nat → List Int → Option (Bool)
  | 0, _ => none
  | k + 1, x0 => (spec_DrawTurnsByPowers.f k x0).bind fun t147 => ((impl_TurnsByPowers.f k t147).bind fun bt151 => ((spec_TurnsByPowers.f k t147).bind fun bt155 => ((impl_TurnsByOne.f k t147).bind fun bt159 => ((spec_TurnsByOne.f k t147).bind fun bt164 => (if bt151.2 = bt155.2 then ((laws_likeInts.f k bt151.1 bt155.1).bind fun t169 => (if t169 = true then (if bt159.2.2 = bt164.2.2 then ((laws_likeInts.f k bt159.1 bt164.1).bind fun t170 => (if t170 = true then (if bt159.2.1 = bt164.2.1 then (if bt151.2 = 0 then (laws_FnHarmonic.j7 k bt151.1 bt151.2 bt159.1 bt159.2.2 (bt159.2.2 != 0) t147) else (laws_FnHarmonic.j7 k bt151.1 bt151.2 bt159.1 bt159.2.2 false t147)) else (laws_FnHarmonic.j7 k bt151.1 bt151.2 bt159.1 bt159.2.2 true t147)) else (laws_FnHarmonic.j7 k bt151.1 bt151.2 bt159.1 bt159.2.2 true t147))) else (laws_FnHarmonic.j7 k bt151.1 bt151.2 bt159.1 bt159.2.2 true t147)) else (laws_FnHarmonic.j7 k bt151.1 bt151.2 bt159.1 bt159.2.2 true t147))) else (laws_FnHarmonic.j7 k bt151.1 bt151.2 bt159.1 bt159.2.2 true t147))))))
def laws_FnHarmonic.j7 : Nat → List Int → Int → List Int → Int → Bool → List Int → Option (Bool)
  | 0, _, _, _, _, _, _ => none
  | k + 1, x27, x28, x31, x33, x271, x151000 => if x271 = true then (some false) else (if x33 = 0 then ((impl_DoServe.f k x151000 x31).bind fun bt171 => (if bt171.2 = 0 then (if bt171.1 = true then (laws_FnHarmonic.j8 k x27 x28 x151000) else (some false)) else (some false))) else (laws_FnHarmonic.j8 k x27 x28 x151000))
def laws_FnHarmonic.j8 : Nat → List Int → Int → List Int → Option (Bool)
  | 0, _, _, _ => none
  | k + 1, x27, x28, x151000 => if x28 = 0 then ((impl_DoServe.f k x151000 x27).bind fun bt173 => (if bt173.2 = 0 then (if bt173.1 = true then (some true) else (some false)) else (some false))) else (some true)
def laws_FnHarmonic.j4 : Nat → List Int → Int → Bool → List Int → List Int → Option (Bool)
  | 0, _, _, _, _, _ => none
  | k + 1, x0, x18, x172, x129000, x134000 => if x172 = true then (some false) else (laws_FnHarmonic.l0 k x0 x18 (x129000.length : Int) 0 x129000 x134000)
def laws_FnHarmonic.l0 : Nat → List Int → Int → Int → Int → List Int → List Int → Option (Bool)
  | 0, _, _, _, _, _, _ => none
  | k + 1, x0, x18, x175, x176, x129000, x134000 => if x176 < x175 then (if 0 ≤ x176 then (if x176 < (x134000.length : Int) then (if x176 < (x129000.length : Int) then (if (rd x134000 x176) > (rd x129000 x176) then (some false) else (if (wrap64 (2 * (rd x134000 x176))) ≤ (rd x129000 x176) then (some false) else (if x18 = 0 then (none) else (if (Int.tmod (rd x134000 x176) x18) = 0 then (laws_FnHarmonic.l0 k x0 x18 x175 (wrap64 (x176 + 1)) x129000 x134000) else (some false))))) else (none)) else (none)) else (none)) else (laws_FnHarmonic.j6 k x0)
end
def laws_FnHarmonic.f (k : Nat) (l0 : List Int) : Option (Bool) := (laws_big.f l0).bind fun t101 => (if t101 = true then (some true) else ((spec_DrawHarmonicTurns.f k l0).bind fun t102 => ((impl_HarmonicTurns.f k t102).bind fun bt106 => ((spec_HarmonicTurns.f k t102).bind fun bt110 => ((impl_AreHarmonic.f t102).bind fun bt114 => ((spec_AreHarmonic.f k t102).bind fun bt116 => (if bt106.2 = bt110.2 then ((laws_likeInts.f k bt106.1 bt110.1).bind fun t118 => (if t118 = true then (if bt114.2 = bt116.2 then (laws_FnHarmonic.j0 k l0 bt106.1 bt106.2 bt114.1 bt114.2 (bt114.1 != bt116.1) t102) else (laws_FnHarmonic.j0 k l0 bt106.1 bt106.2 bt114.1 bt114.2 true t102)) else (laws_FnHarmonic.j0 k l0 bt106.1 bt106.2 bt114.1 bt114.2 true t102))) else (laws_FnHarmonic.j0 k l0 bt106.1 bt106.2 bt114.1 bt114.2 true t102))))))))
theorem laws_FnHarmonic.mono_l : ∀ k, (∀ y0 y1 y2 y3 y4 y5 y6, LeO (laws_FnHarmonic.j0 k y0 y1 y2 y3 y4 y5 y6) (laws_FnHarmonic.j0 (k + 1) y0 y1 y2 y3 y4 y5 y6)) ∧ (∀ y0 y1 y2 y3, LeO (laws_FnHarmonic.j1 k y0 y1 y2 y3) (laws_FnHarmonic.j1 (k + 1) y0 y1 y2 y3)) ∧ (∀ y0, LeO (laws_FnHarmonic.j2 k y0) (laws_FnHarmonic.j2 (k + 1) y0)) ∧ (∀ y0 y1 y2 y3 y4 y5, LeO (laws_FnHarmonic.j3 k y0 y1 y2 y3 y4 y5) (laws_FnHarmonic.j3 (k + 1) y0 y1 y2 y3 y4 y5)) ∧ (∀ y0, LeO (laws_FnHarmonic.j6 k y0) (laws_FnHarmonic.j6 (k + 1) y0)) ∧ (∀ y0 y1 y2 y3 y4 y5, LeO (laws_FnHarmonic.j7 k y0 y1 y2 y3 y4 y5) (laws_FnHarmonic.j7 (k + 1) y0 y1 y2 y3 y4 y5)) ∧ (∀ y0 y1 y2, LeO (laws_FnHarmonic.j8 k y0 y1 y2) (laws_FnHarmonic.j8 (k + 1) y0 y1 y2)) ∧ (∀ y0 y1 y2 y3 y4, LeO (laws_FnHarmonic.j4 k y0 y1 y2 y3 y4) (laws_FnHarmonic.j4 (k + 1) y0 y1 y2 y3 y4)) ∧ (∀ y0 y1 y2 y3 y4 y5, LeO (laws_FnHarmonic.l0 k y0 y1 y2 y3 y4 y5) (laws_FnHarmonic.l0 (k + 1) y0 y1 y2 y3 y4 y5))
  | 0 => ⟨fun _ _ _ _ _ _ _ r h => by simp [laws_FnHarmonic.j0] at h, fun _ _ _ _ r h => by simp [laws_FnHarmonic.j1] at h, fun _ r h => by simp [laws_FnHarmonic.j2] at h, fun _ _ _ _ _ _ r h => by simp [laws_FnHarmonic.j3] at h, fun _ r h => by simp [laws_FnHarmonic.j6] at h, fun _ _ _ _ _ _ r h => by simp [laws_FnHarmonic.j7] at h, fun _ _ _ r h => by simp [laws_FnHarmonic.j8] at h, fun _ _ _ _ _ r h => by simp [laws_FnHarmonic.j4] at h, fun _ _ _ _ _ _ r h => by simp [laws_FnHarmonic.l0] at h⟩
  | k + 1 => by
    obtain ⟨ih0, ih1, ih2, ih3, ih4, ih5, ih6, ih7, ih8⟩ := laws_FnHarmonic.mono_l k
    refine ⟨?_, ?_, ?_, ?_, ?_, ?_, ?_, ?_, ?_⟩ <;> intros <;> (first | unfold laws_FnHarmonic.j0 | unfold laws_FnHarmonic.j1 | unfold laws_FnHarmonic.j2 | unfold laws_FnHarmonic.j3 | unfold laws_FnHarmonic.j6 | unfold laws_FnHarmonic.j7 | unfold laws_FnHarmonic.j8 | unfold laws_FnHarmonic.j4 | unfold laws_FnHarmonic.l0) <;> repeat' first | (with_reducible exact ih0 _ _ _ _ _ _ _) | (with_reducible exact ih1 _ _ _ _) | (with_reducible exact ih2 _) | (with_reducible exact ih3 _ _ _ _ _ _) | (with_reducible exact ih4 _) | (with_reducible exact ih5 _ _ _ _ _ _) | (with_reducible exact ih6 _ _ _) | (with_reducible exact ih7 _ _ _ _ _) | (with_reducible exact ih8 _ _ _ _ _ _) | (with_reducible exact impl_DensityOf.mono _ _) | (with_reducible exact impl_DoServe.mono _ _ _) | (with_reducible exact impl_HarmonicTurns.mono _ _) | (with_reducible exact impl_LessenGaps.mono _ _ _) | (with_reducible exact impl_TurnsByOne.mono _ _) | (with_reducible exact impl_TurnsByPowers.mono _ _) | (with_reducible exact laws_likeInts.mono _ _ _) | (with_reducible exact laws_tasks5.mono _ _ _) | (with_reducible exact spec_AreHarmonic.mono _ _) | (with_reducible exact spec_DrawHarmonicTurns.mono _ _) | (with_reducible exact spec_DrawLessenGaps.mono _ _) | (with_reducible exact spec_DrawTurnsByPowers.mono _ _) | (with_reducible exact spec_HarmonicTurns.mono _ _) | (with_reducible exact spec_LessenGaps.mono _ _ _) | (with_reducible exact spec_TurnsByOne.mono _ _) | (with_reducible exact spec_TurnsByPowers.mono _ _) | (with_reducible exact LeO.refl _) | (with_reducible exact LeO.none _) | (with_reducible refine LeO.ite ?_ ?_) | (with_reducible refine LeO.bind ?_ (fun _ => ?_)) | exact ih0 _ _ _ _ _ _ _ | exact ih1 _ _ _ _ | exact ih2 _ | exact ih3 _ _ _ _ _ _ | exact ih4 _ | exact ih5 _ _ _ _ _ _ | exact ih6 _ _ _ | exact ih7 _ _ _ _ _ | exact ih8 _ _ _ _ _ _ | exact impl_DensityOf.mono _ _ | exact impl_DoServe.mono _ _ _ | exact impl_HarmonicTurns.mono _ _ | exact impl_LessenGaps.mono _ _ _ | exact impl_TurnsByOne.mono _ _ | exact impl_TurnsByPowers.mono _ _ | exact laws_likeInts.mono _ _ _ | exact laws_tasks5.mono _ _ _ | exact spec_AreHarmonic.mono _ _ | exact spec_DrawHarmonicTurns.mono _ _ | exact spec_DrawLessenGaps.mono _ _ | exact spec_DrawTurnsByPowers.mono _ _ | exact spec_HarmonicTurns.mono _ _ | exact spec_LessenGaps.mono _ _ _ | exact spec_TurnsByOne.mono _ _ | exact spec_TurnsByPowers.mono _ _ | exact LeO.none _ | refine LeO.ite ?_ ?_ | refine LeO.bind ?_ (fun _ => ?_)
theorem laws_FnHarmonic.mono : ∀ a0 k, LeO (laws_FnHarmonic.f k a0) (laws_FnHarmonic.f (k + 1) a0) := by
  intro a0 k
  obtain ⟨ih0, ih1, ih2, ih3, ih4, ih5, ih6, ih7, ih8⟩ := laws_FnHarmonic.mono_l k
  unfold laws_FnHarmonic.f
  repeat' first | (with_reducible exact ih0 _ _ _ _ _ _ _) | (with_reducible exact ih1 _ _ _ _) | (with_reducible exact ih2 _) | (with_reducible exact ih3 _ _ _ _ _ _) | (with_reducible exact ih4 _) | (with_reducible exact ih5 _ _ _ _ _ _) | (with_reducible exact ih6 _ _ _) | (with_reducible exact ih7 _ _ _ _ _) | (with_reducible exact ih8 _ _ _ _ _ _) | (with_reducible exact impl_DensityOf.mono _ _) | (with_reducible exact impl_DoServe.mono _ _ _) | (with_reducible exact impl_HarmonicTurns.mono _ _) | (with_reducible exact impl_LessenGaps.mono _ _ _) | (with_reducible exact impl_TurnsByOne.mono _ _) | (with_reducible exact impl_TurnsByPowers.mono _ _) | (with_reducible exact laws_likeInts.mono _ _ _) | (with_reducible exact laws_tasks5.mono _ _ _) | (with_reducible exact spec_AreHarmonic.mono _ _) | (with_reducible exact spec_DrawHarmonicTurns.mono _ _) | (with_reducible exact spec_DrawLessenGaps.mono _ _) | (with_reducible exact spec_DrawTurnsByPowers.mono _ _) | (with_reducible exact spec_HarmonicTurns.mono _ _) | (with_reducible exact spec_LessenGaps.mono _ _ _) | (with_reducible exact spec_TurnsByOne.mono _ _) | (with_reducible exact spec_TurnsByPowers.mono _ _) | (with_reducible exact LeO.refl _) | (with_reducible exact LeO.none _) | (with_reducible refine LeO.ite ?_ ?_) | (with_reducible refine LeO.bind ?_ (fun _ => ?_)) | exact ih0 _ _ _ _ _ _ _ | exact ih1 _ _ _ _ | exact ih2 _ | exact ih3 _ _ _ _ _ _ | exact ih4 _ | exact ih5 _ _ _ _ _ _ | exact ih6 _ _ _ | exact ih7 _ _ _ _ _ | exact ih8 _ _ _ _ _ _ | exact impl_DensityOf.mono _ _ | exact impl_DoServe.mono _ _ _ | exact impl_HarmonicTurns.mono _ _ | exact impl_LessenGaps.mono _ _ _ | exact impl_TurnsByOne.mono _ _ | exact impl_TurnsByPowers.mono _ _ | exact laws_likeInts.mono _ _ _ | exact laws_tasks5.mono _ _ _ | exact spec_AreHarmonic.mono _ _ | exact spec_DrawHarmonicTurns.mono _ _ | exact spec_DrawLessenGaps.mono _ _ | exact spec_DrawTurnsByPowers.mono _ _ | exact spec_HarmonicTurns.mono _ _ | exact spec_LessenGaps.mono _ _ _ | exact spec_TurnsByOne.mono _ _ | exact spec_TurnsByPowers.mono _ _ | exact LeO.none _ | refine LeO.ite ?_ ?_ | refine LeO.bind ?_ (fun _ => ?_)
end Go.Proofs.Ytgbapmmfhdphmaa.P
end
