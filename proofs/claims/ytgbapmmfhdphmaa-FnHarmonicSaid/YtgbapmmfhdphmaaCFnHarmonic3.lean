/- Lessened gaps are at most the gaps, harmonic turns serve their tasks, and turns by powers and by one number serve. -/
import Derived.Test.YtgbapmmfhdphmaaCFnHarmonic2
section
namespace Go.Proofs.Ytgbapmmfhdphmaa.P
open Go.RowKit Go.Proofs.YtgbapmmfhdphmaaW.PrintWords Go.Proofs.YtgbapmmfhdphmaaW.PrintLast Go.Proofs.YtgbapmmfhdphmaaW.PrintMore
attribute [local go_sem] max2_int min2_int max_two min_two max_three min_three max_four min_four   -- for this text's walks alone
set_option linter.unusedVariables false
set_option linter.unusedSimpArgs false
set_option maxHeartbeats 8000000 in
set_option maxRecDepth 100000 in
theorem spec_l01DrawServed.calls (k : Nat) (g : Nat) (s0_0 : List Int) (s0_1 : Int) (s0_2 : Int) (r1 : List Int) (r2 : List Int) (r3 : Int) (r4 : Int) (w0 w : World) (hI : IsS65 w0 w g s0_0 s0_1 s0_2) (hB : Below w0.heap.size w0 w) (h : spec_l01DrawServed.f k s0_0 s0_1 s0_2 = some (r1, r2, r3, r4)) :
    Calls Try.prog 63 #[.pointer (some ⟨g, 0, none⟩)] w fun e w' => ∃ v0_ v1_ : Value, e = .returned (.tuple #[.agg #[v0_], v1_]) ∧ Kd.R (Kd.int .i64) 2 w' w.heap.size (fun k_ => some k_ ≠ (v1_ : Value).ownBlock) v0_ r1 ∧ Kd.R (Kd.int .i64) 2 w' w.heap.size (fun k_ => some k_ ≠ (v0_ : Value).ownBlock) v1_ r2 ∧ IsS65 w0 w' g s0_0 r3 r4 ∧ Below w0.heap.size w0 w' ∧ KeepBut w w' g none := by
 have hu26 := Try.underlying26
 have HI0 := Aside0.mk hI
 have HK := Aside0.mk (KeepBut.refl w g none)
 have HL := Aside0.mk hB.size
 clear hI
 have HW0 := Aside0.mk hB.size
 have HB := Aside0.mk hB
 clear hB
 have H : ((spec_l01Pick.f s0_0 s0_1 s0_2 (([3, 5, 8] : List Int))).bind fun bt105 => ((spec_l01Next.f s0_0 bt105.2.1 bt105.2.2 bt105.1).bind fun bt108 => ((spec_l01DrawTurns.f k s0_0 bt108.2.1 bt108.2.2 (wrap64 (1 + bt108.1))).bind fun bt111 => (spec_l01DrawServed.l0 k (wrap64 (1 + bt108.1)) bt111.1 0 s0_0 bt111.2.1 bt111.2.2)))) = some (r1, r2, r3, r4) := h
 clear h
 obtain ⟨y102, hy102⟩ : ∃ y_ : List Int, y_ = (([3, 5, 8] : List Int)) := ⟨_, rfl⟩
 replace H : ((spec_l01Pick.f s0_0 s0_1 s0_2 y102).bind fun bt105 => ((spec_l01Next.f s0_0 bt105.2.1 bt105.2.2 bt105.1).bind fun bt108 => ((spec_l01DrawTurns.f k s0_0 bt108.2.1 bt108.2.2 (wrap64 (1 + bt108.1))).bind fun bt111 => (spec_l01DrawServed.l0 k (wrap64 (1 + bt108.1)) bt111.1 0 s0_0 bt111.2.1 bt111.2.2)))) = some (r1, r2, r3, r4) := zH hy102
 have Ny102 := Aside0.mk hy102
 clear hy102
 replace H := Option.bind_eq_some_iff.mp H
 obtain ⟨⟨t105, t106, t107⟩, A20, H⟩ := H
 replace H : ((spec_l01Next.f s0_0 t106 t107 t105).bind fun bt108 => ((spec_l01DrawTurns.f k s0_0 bt108.2.1 bt108.2.2 (wrap64 (1 + bt108.1))).bind fun bt111 => (spec_l01DrawServed.l0 k (wrap64 (1 + bt108.1)) bt111.1 0 s0_0 bt111.2.1 bt111.2.2))) = some (r1, r2, r3, r4) := H
 have A2 := Aside0.mk A20
 clear A20
 replace H := Option.bind_eq_some_iff.mp H
 obtain ⟨⟨t108, t109, t110⟩, A30, H⟩ := H
 replace H : ((spec_l01DrawTurns.f k s0_0 t109 t110 (wrap64 (1 + t108))).bind fun bt111 => (spec_l01DrawServed.l0 k (wrap64 (1 + t108)) bt111.1 0 s0_0 bt111.2.1 bt111.2.2)) = some (r1, r2, r3, r4) := H
 have A3 := Aside0.mk A30
 clear A30
 replace H := Option.bind_eq_some_iff.mp H
 obtain ⟨⟨t111, t114, t115⟩, A40, H⟩ := H
 replace H : (spec_l01DrawServed.l0 k (wrap64 (1 + t108)) t111 0 s0_0 t114 t115) = some (r1, r2, r3, r4) := H
 have A4 := Aside0.mk A40
 clear A40
 have H' := Aside0.mk H
 clear H
 go_enter Try.func63, Try.ntmps63
 go_wp2_with (first | ((with_reducible refine gate_dst (N := 2) rfl ?_); (try (refine gate_guard (by rfl) ?_; dsimp only)); refine box_event zr (N := 2) zr (cs := #[.slice none 0 0]) (t := 26) zg ?_; intro gb101 hg w5 hbox hb; have n_ := y8 (IsS65.below (zI) hb) (KeepBut.trans (zK) (KeepBut.of_below hb g none) (.inl rfl)) (below_step (zB) hb) (hbox) ((by rw [hg]; exact (keep_size (w := w) (g := g) (row := none) (zK)) : w.heap.size ≤ gb101)) ((Nat.le_trans HW0.out (by rw [hg]; exact (keep_size (w := w) (g := g) (row := none) (zK)) : w.heap.size ≤ gb101) : w0.heap.size ≤ gb101)) ((by rw [hg]; exact Nat.ne_of_lt (IsS65.lt (show IsS65 w0 _ g s0_0 s0_1 s0_2 from zI)) : g ≠ gb101)) ((by rw [hg]; exact Nat.ne_of_gt (IsS65.lt (show IsS65 w0 _ g s0_0 s0_1 s0_2 from zI)) : gb101 ≠ g)); clear HI0 HK HB; obtain ⟨HI0, HK, HB, BK101, GW101, GE101, NB0_101, NB101_0⟩ := n_; clear hb hbox hg) | ((with_reducible refine gate_dst (N := 12) rfl ?_); (try (refine gate_guard (by rfl) ?_; dsimp only)); refine Kd.R_lit (Kd.int .i64) _ 2 ?hg (N := 12) ?hd (xs := ([3, 5, 8] : List Int)) (inner := [.int .i64 3, .int .i64 5, .int .i64 8]) (ok := fun _ => True) (okp := fun _ => True) ?hr ?hp (fun _ hk => hk) trivial (Below.refl _ _) (Nat.le_refl _) (by simp) ?_; (case hd => rfl); (case hg => rfl); (case hr => first | (go_simp; done) | (go_simp; rfl)); (case hp => exact (Reps.one (show Kd.M (Kd.int .i64) _ _ _ 3 [.int .i64 3] from rfl) (Reps.one (show Kd.M (Kd.int .i64) _ _ _ 5 [.int .i64 5] from rfl) (Reps.one (show Kd.M (Kd.int .i64) _ _ _ 8 [.int .i64 8] from rfl) (Reps.none _ _))))); intro v103 w6 ho7 hb hg_ hnew_; clear hg_ hnew_; (first | rw [← Ny102.out] at ho7 | (simp only [Int.reduceToNat] at ho7; rw [← Ny102.out] at ho7)); have n_ := y5 (Kd.R_lower ho7 (keep_size (w := w) (g := g) (row := none) (zK))) (IsS65.below (zI) hb) (zb BK101.out hb) (KeepBut.trans (zK) (KeepBut.of_below hb g none) (.inl rfl)) (below_step (zB) hb); clear HI0 BK101 HK HB; obtain ⟨HO104, HI0, BK101, HK, HB⟩ := n_; clear hb ho7; obtain ⟨Ao8, co8, eo8⟩ := Kd.R_slice HO104.out; subst eo8) | ((with_reducible refine gate_callee (f := 37) rfl ?_); refine goesL_ (some 13) rfl rfl Try.func37 zk rfl #[.pointer (some ⟨g, 0, none⟩), .slice Ao8 y102.length co8] rfl zA ?_; (with_reducible refine (spec_l01Pick.calls g s0_0 s0_1 s0_2 _ _ y102 t105 t106 t107 w0 _ ?side1 ?side2 ?side3 ?side4 ?side5 A2.out).mono ?_); (case side1 => exact zI); (case side2 => exact zB); (case side3 => exact zC (Kd.R_reads' HO104.out).2.2); (case side4 => exact (Kd.R_reads' HO104.out).2.1); (case side5 => exact far_slice (IsS65.own_ne HI0.out HO104.out (by decide))); rintro e w9 ⟨rfl, hi, hb, hk⟩; refine ⟨_, rfl, ?_⟩; have n_ := y5 (KeepBut.blk hk (g' := gb101) (o := .cells #[.slice none 0 0] 26 (0, 0)) (zG BK101.out) NB101_0.out (by simp)) (Kd.R_mono (Kd.R_keep (IsS65.apart (show IsS65 w0 _ g s0_0 s0_1 s0_2 from zI) (zR HO104.out) (by decide)) hk (fun _ h => h.2)) (fun _ h => h.1)) (KeepBut.trans (zK) hk (.inl rfl)) (hb) (hi); clear BK101 HO104 HK HB HI0; obtain ⟨BK101, HO104, HK, HB, HI0⟩ := n_; (try clear hb); (try clear hb2); (try clear hk); (try clear hi)) | ((with_reducible refine gate_callee (f := 45) rfl ?_); refine goesL_ (some 14) rfl rfl Try.func45 zk rfl #[.pointer (some ⟨g, 0, none⟩), .int .i64 t105] rfl zA ?_; (with_reducible refine (spec_l01Next.calls g s0_0 t106 t107 t105 t108 t109 t110 w0 _ ?side1 ?side2 A3.out).mono ?_); (case side1 => exact zI); (case side2 => exact zB); rintro e w10 ⟨rfl, hi, hb, hk⟩; refine ⟨_, rfl, ?_⟩; have n_ := y5 (KeepBut.blk hk (g' := gb101) (o := .cells #[.slice none 0 0] 26 (0, 0)) (zG BK101.out) NB101_0.out (by simp)) (Kd.R_mono (Kd.R_keep (IsS65.apart (show IsS65 w0 _ g s0_0 t106 t107 from zI) (zR HO104.out) (by decide)) hk (fun _ h => h.2)) (fun _ h => h.1)) (KeepBut.trans (zK) hk (.inl rfl)) (hb) (hi); clear BK101 HO104 HK HB HI0; obtain ⟨BK101, HO104, HK, HB, HI0⟩ := n_; (try clear hb); (try clear hb2); (try clear hk); (try clear hi)) | ((with_reducible refine gate_callee (f := 73) rfl ?_); refine goesL_ (some 18) rfl rfl Try.func73 zk rfl #[.pointer (some ⟨g, 0, none⟩), .int .i64 (wrap64 (1 + t108))] rfl zA ?_; (with_reducible refine (spec_l01DrawTurns.calls k g s0_0 t109 t110 (wrap64 (1 + t108)) t111 t114 t115 w0 _ ?side1 ?side2 A4.out).mono ?_); (case side1 => exact zI); (case side2 => exact zB); rintro e w11 ⟨v112, rfl, ho0, hi, hb, hk⟩; refine ⟨_, rfl, ?_⟩; have n_ := y6 (KeepBut.blk hk (g' := gb101) (o := .cells #[.slice none 0 0] 26 (0, 0)) (zG BK101.out) NB101_0.out (by simp)) (Kd.R_mono (Kd.R_told (Kd.R_oldK (IsS65.apart (show IsS65 w0 _ g s0_0 t109 t110 from zI) (zR HO104.out) (by decide)) hk) (Kd.R_base ho0)) (fun _ h_ => h_.1)) (Kd.R_lower (Kd.R_new' ho0 (Kd.R_lt (zR HO104.out))) (keep_size (w := w) (g := g) (row := none) (zK))) (KeepBut.trans (zK) hk (.inl rfl)) (hb) (hi); clear BK101 HO104 HK HB HI0; obtain ⟨BK101, HO104, HO113, HK, HB, HI0⟩ := n_; (try clear hb); (try clear hb2); (try clear hk); (try clear hi); (try clear ho0)))
 go_loopg [6] k (fun kq v6 w' => ∃ (x5_1 : List Int) (x6_1 : Int), v6 = .int .i64 x6_1 ∧ Aside0 (spec_l01DrawServed.l0 kq (wrap64 (1 + t108)) x5_1 x6_1 s0_0 t114 t115 = some (r1, r2, r3, r4)) ∧ Aside0 (kq ≤ k) ∧ Aside0 (Kd.R (Kd.int .i64) 2 w' w.heap.size (fun _ => True) v112 x5_1) ∧ Aside0 (w'.heap[gb101]? = some (.cells #[(.slice none 0 0)] 26 (0, 0))) ∧ Aside0 (IsS65 w0 w' g s0_0 t114 t115) ∧ Aside0 (KeepBut w w' g none) ∧ Aside0 (Below w0.heap.size w0 w'))
 case atStart => exact ⟨(t111), (0), zF, H', ⟨Nat.le_refl _⟩, ⟨by refine zR ?_; exact Kd.R_mono HO113.out (fun _ hk => trivial)⟩, ⟨zG BK101.out⟩, ⟨zI⟩, ⟨zK⟩, ⟨zB⟩⟩
 clear H'
 obtain ⟨x5_1, x6_1, rfl, HA, HK1, HO_5, BK101, HI0, HK, HB⟩ := hrel
 cases gk with
 | zero => exact absurd HA.out (by simp [spec_l01DrawServed.l0])
 | succ k1 =>
   have H := HA.out
   clear HA
   simp only [spec_l01DrawServed.l0] at H
   have HC12 := Aside0.mk H
   clear H
   go_upto_region 4 with (fail)
   go_cut [27] (fun v27 wc => ∃ (kq : Nat) (x27_11 : Bool), v27 = .bool x27_11 ∧ Aside0 (spec_l01DrawServed.j1 kq (wrap64 (1 + t108)) x5_1 x6_1 x27_11 s0_0 t114 t115 = some (r1, r2, r3, r4)) ∧ Aside0 (kq ≤ k1) ∧ Aside0 (Kd.R (Kd.int .i64) 2 wc w.heap.size (fun _ => True) v112 x5_1) ∧ Aside0 (wc.heap[gb101]? = some (.cells #[(.slice none 0 0)] 26 (0, 0))) ∧ Aside0 (IsS65 w0 wc g s0_0 t114 t115) ∧ Aside0 (KeepBut w wc g none) ∧ Aside0 (Below w0.heap.size w0 wc))
   case first =>
     have H := HC12.out
     clear HC12
     by_cases c13 : x6_1 < (wrap64 (1 + t108))
     · rw [if_pos c13] at H
       have c13b0 : decide (x6_1 < (wrap64 (1 + t108))) = true := decide_eq_true c13
       clear c13
       (first | rw [c13b0] | (simp only [i64_w, i32_w]; rw [c13b0]) | skip)
       have H' := Aside0.mk H
       clear H
       obtain ⟨Ao14, co14, eo14⟩ := Kd.R_slice HO_5.out
       subst eo14
       go_wp2
       go_meet
       case rel => exact ⟨_, (decide (x6_1 < (x5_1.length : Int))), zF, H', ⟨by have := HK1.out; first | omega | exact Nat.le_refl _⟩, ⟨zR HO_5.out⟩, ⟨zG BK101.out⟩, ⟨zI⟩, ⟨zK⟩, ⟨zB⟩⟩
     · rw [if_neg c13] at H
       have c13b0 : decide (x6_1 < (wrap64 (1 + t108))) = false := decide_eq_false c13
       clear c13
       (first | rw [c13b0] | (simp only [i64_w, i32_w]; rw [c13b0]) | skip)
       have H' := Aside0.mk H
       clear H
       go_wp2
       go_meet
       case rel => exact ⟨_, (false), zF, H', ⟨by have := HK1.out; first | omega | exact Nat.le_refl _⟩, ⟨zR HO_5.out⟩, ⟨zG BK101.out⟩, ⟨zI⟩, ⟨zK⟩, ⟨zB⟩⟩
   case rest =>
     clear HC12
     obtain ⟨kq, x27_11, rfl, HA, HJ11, HO_5, BK101, HI0, HK, HB⟩ := hcut
     cases kq with
     | zero => exact absurd HA.out (by simp [spec_l01DrawServed.j1])
     | succ kj11 =>
       have H := HA.out
       clear HA
       simp only [spec_l01DrawServed.j1] at H
       by_cases c15 : x27_11 = true
       · subst c15
         have H1 : ((spec_l01Greatest.f kj11 x5_1 x6_1).bind fun t116 => (if t116 = 0 then (if 0 ≤ x6_1 then (if x6_1 < (x5_1.length : Int) then (spec_l01DrawServed.l0 kj11 (wrap64 (1 + t108)) (x5_1.set (x6_1 : Int).toNat x6_1) (wrap64 (x6_1 + 1)) s0_0 t114 t115) else (none)) else (none)) else (spec_l01DrawServed.l0 kj11 (wrap64 (1 + t108)) x5_1 (wrap64 (x6_1 + 1)) s0_0 t114 t115))) = some (r1, r2, r3, r4) := by rw [if_pos rfl] at H; exact H
         clear H
         have H := H1
         clear H1
         replace H := Option.bind_eq_some_iff.mp H
         obtain ⟨t116, A160, H⟩ := H
         replace H : (if t116 = 0 then (if 0 ≤ x6_1 then (if x6_1 < (x5_1.length : Int) then (spec_l01DrawServed.l0 kj11 (wrap64 (1 + t108)) (x5_1.set (x6_1 : Int).toNat x6_1) (wrap64 (x6_1 + 1)) s0_0 t114 t115) else (none)) else (none)) else (spec_l01DrawServed.l0 kj11 (wrap64 (1 + t108)) x5_1 (wrap64 (x6_1 + 1)) s0_0 t114 t115)) = some (r1, r2, r3, r4) := H
         have A16 := Aside0.mk A160
         clear A160
         by_cases c17 : t116 = 0
         · rw [if_pos c17] at H
           have c17b0 : (t116 == 0) = true := beq_iff_eq.mpr c17
           have c17b1 : (t116 != 0) = false := bne_eq_false_iff_eq.mpr c17
           clear c17
           by_cases c18 : 0 ≤ x6_1
           · rw [if_pos c18] at H
             have c18b0 : decide (0 ≤ x6_1) = true := decide_eq_true c18
             clear c18
             by_cases c19 : x6_1 < (x5_1.length : Int)
             · rw [if_pos c19] at H
               have c19b0 : decide (x6_1 < (x5_1.length : Int)) = true := decide_eq_true c19
               clear c19
               obtain ⟨y117, hy117⟩ : ∃ y_ : List Int, y_ = (x5_1.set (x6_1 : Int).toNat x6_1) := ⟨_, rfl⟩
               replace H : (spec_l01DrawServed.l0 kj11 (wrap64 (1 + t108)) y117 (wrap64 (x6_1 + 1)) s0_0 t114 t115) = some (r1, r2, r3, r4) := zH hy117
               have Ny117 := Aside0.mk hy117
               clear hy117
               have H' := Aside0.mk H
               clear H
               obtain ⟨Ao21, co21, eo21⟩ := Kd.R_slice HO_5.out
               subst eo21
               go_wp2_with (first | ((with_reducible refine gate_callee (f := 74) rfl ?_); refine goesL_ (some 32) rfl rfl Try.func74 zk rfl #[.slice Ao21 x5_1.length co21, .int .i64 x6_1] rfl zA ?_; (with_reducible refine (spec_l01Greatest.calls kj11 _ _ x5_1 x6_1 t116 _ ?side1 ?side2 A16.out).mono ?_); (case side1 => exact zC (Kd.R_reads' HO_5.out).2.2); (case side2 => exact (Kd.R_reads' HO_5.out).2.1); rintro e w22 ⟨rfl, hb⟩; refine ⟨_, rfl, ?_⟩; have n_ := y5 (Kd.R_below (zR HO_5.out) hb) (zb BK101.out hb) (IsS65.below (zI) hb) (KeepBut.trans (zK) (KeepBut.of_below hb g none) (.inl rfl)) (below_step (zB) hb); clear HO_5 BK101 HI0 HK HB; obtain ⟨HO_5, BK101, HI0, HK, HB⟩ := n_; (try clear hb); (try clear hb2); (try clear hk); (try clear hi); have p20 : 0 ≤ (x6_1 : Int) := zD; have q20 : (x6_1 : Int) < ((x5_1.length : Int) : Int) := zD; obtain ⟨go20, co20, eo20, gb20, gl20, cl20, HG20⟩ := Kd.R_form HO_5.out (by omega); (first | cases eo20 | (injection eo20 with ea_ en_ ec_; (first | subst ea_ | (injection ea_ with ea_; subst ea_)); subst ec_; clear en_)); have GB20 := Aside0.mk gb20; have GG20 := Aside0.mk HG20; clear gb20 gl20 HG20; obtain ⟨hx20_0, hf20_0⟩ := Kd.R_celln 0 HO_5.out (x6_1 : Int) p20 q20; replace p20 := eq_true p20; replace q20 := eq_true q20; obtain ⟨hy23_, hz23_⟩ := Kd.R_celln 0 HO_5.out (x6_1 : Int) (zD) (zD); have HP23 := Kd.R_putg HO_5.out (x6_1 : Int) x6_1) | ((with_reducible refine gate_store (t := 2) (p := 37) rfl ?_); refine store_event (t := 2) (p := 37) (v := ?vo_w24) (w1 := (w22.setCell ⟨go20, (x6_1 : Int).toNat, none⟩ (.int .i64 x6_1))) ?hg ?ho ?hn ?hr ?_; (case ho => rfl); (case hg => rfl); (case hn => rfl); (case hr => first | (go_simp; done) | (go_simp; rfl)); intro w24 hw; have hg : w22.grownBy w24 (some go20) := (by rw [hw]; exact HP23.2); have hp_ : Kd.R (Kd.int .i64) 2 w24 w.heap.size (fun _ => True) (.slice (some ⟨go20, 0, none⟩) x5_1.length co21) y117 := (by rw [hw, Ny117.out]; exact HP23.1); clear HP23; have n_ := y5 (hp_) (blk_grown (g := gb101) (o := .cells #[.slice none 0 0] 26 (0, 0)) (zG BK101.out) hg (Kd.R_ne HO_5.out BK101.out (by decide))) (IsS65.grown (zI) hg (IsS65.own_ne HI0.out HO_5.out (by decide))) ((by rw [hw]; exact below_set (HB.out) (Nat.le_trans HL.out GB20.out) : Below w0.heap.size w0 w24)) (KeepBut.trans (zK) (KeepBut.of_grown hg g) (Kd.R_base2 HO_5.out)); clear HO_5 BK101 HI0 HB HK; obtain ⟨HO_5, BK101, HI0, HB, HK⟩ := n_; clear hg hw hp_))
               go_roundg kj11
               case measure => have := HK1.out; have := HJ11.out; omega
               case rel => exact ⟨(y117), (wrap64 (x6_1 + 1)), zF, H', ⟨by have := HK1.out; have := HJ11.out; omega⟩, ⟨zR HO_5.out⟩, ⟨zG BK101.out⟩, ⟨zI⟩, ⟨zK⟩, ⟨zB⟩⟩
             · rw [if_neg c19] at H
               exact absurd H (by simp)
           · rw [if_neg c18] at H
             exact absurd H (by simp)
         · rw [if_neg c17] at H
           have c17b0 : (t116 == 0) = false := beq_eq_false_iff_ne.mpr c17
           have c17b1 : (t116 != 0) = true := bne_iff_ne.mpr c17
           have H' := Aside0.mk H
           clear H
           obtain ⟨Ao25, co25, eo25⟩ := Kd.R_slice HO_5.out
           subst eo25
           go_wp2_with (first | ((with_reducible refine gate_callee (f := 74) rfl ?_); refine goesL_ (some 32) rfl rfl Try.func74 zk rfl #[.slice Ao25 x5_1.length co25, .int .i64 x6_1] rfl zA ?_; (with_reducible refine (spec_l01Greatest.calls kj11 _ _ x5_1 x6_1 t116 _ ?side1 ?side2 A16.out).mono ?_); (case side1 => exact zC (Kd.R_reads' HO_5.out).2.2); (case side2 => exact (Kd.R_reads' HO_5.out).2.1); rintro e w26 ⟨rfl, hb⟩; refine ⟨_, rfl, ?_⟩; have n_ := y5 (Kd.R_below (zR HO_5.out) hb) (zb BK101.out hb) (IsS65.below (zI) hb) (KeepBut.trans (zK) (KeepBut.of_below hb g none) (.inl rfl)) (below_step (zB) hb); clear HO_5 BK101 HI0 HK HB; obtain ⟨HO_5, BK101, HI0, HK, HB⟩ := n_; (try clear hb); (try clear hb2); (try clear hk); (try clear hi)))
           go_roundg kj11
           case measure => have := HK1.out; have := HJ11.out; omega
           case rel => exact ⟨(x5_1), (wrap64 (x6_1 + 1)), zF, H', ⟨by have := HK1.out; have := HJ11.out; omega⟩, ⟨zR HO_5.out⟩, ⟨zG BK101.out⟩, ⟨zI⟩, ⟨zK⟩, ⟨zB⟩⟩
       · replace c15 := Bool.eq_false_iff.mpr c15
         subst c15
         have H1 : (spec_l01DrawServed.l1 kj11 (wrap64 (1 + t108)) x5_1 0 s0_0 t114 t115 (([] : List Int))) = some (r1, r2, r3, r4) := by rw [if_neg (show ¬ (false = true) by decide)] at H; exact H
         clear H
         have H := H1
         clear H1
         obtain ⟨y118, hy118⟩ : ∃ y_ : List Int, y_ = (([] : List Int)) := ⟨_, rfl⟩
         replace H : (spec_l01DrawServed.l1 kj11 (wrap64 (1 + t108)) x5_1 0 s0_0 t114 t115 y118) = some (r1, r2, r3, r4) := zH hy118
         have Ny118 := Aside0.mk hy118
         clear hy118
         have H' := Aside0.mk H
         clear H
         go_wp2_with (first | ((with_reducible refine gate_dst (N := 38) rfl ?_); (try (refine gate_guard (by rfl) ?_; dsimp only)); refine Kd.R_lit (Kd.int .i64) _ 2 ?hg (N := 38) ?hd (xs := ([] : List Int)) (inner := []) (ok := fun _ => True) (okp := fun _ => True) ?hr ?hp (fun _ hk => hk) trivial (Below.refl _ _) (Nat.le_refl _) (by simp) ?_; (case hd => rfl); (case hg => rfl); (case hr => first | (go_simp; done) | (go_simp; rfl)); (case hp => exact (Reps.none _ _)); intro v119 w27 ho28 hb hg_ hnew_; clear hg_ hnew_; (first | rw [← Ny118.out] at ho28 | (simp only [Int.reduceToNat] at ho28; rw [← Ny118.out] at ho28)); have n_ := y6 (Kd.R_elder' (zR HO_5.out) (Kd.R_base ho28) hb) (Kd.R_lower (Kd.R_new' ho28 (Kd.R_lt (zR HO_5.out))) (keep_size (w := w) (g := g) (row := none) (zK))) (zb BK101.out hb) (IsS65.below (zI) hb) (KeepBut.trans (zK) (KeepBut.of_below hb g none) (.inl rfl)) (below_step (zB) hb); clear HO_5 BK101 HI0 HK HB; obtain ⟨HO_5, HO120, BK101, HI0, HK, HB⟩ := n_; clear hb ho28; obtain ⟨Ao29, co29, eo29⟩ := Kd.R_slice HO120.out; subst eo29) | ((with_reducible refine gate_dst (N := 7) rfl ?_); (try (refine gate_guard (by rfl) ?_; dsimp only)); refine box_event zr (N := 7) zr (cs := #[.slice none 0 0]) (t := 26) zg ?_; intro gb121 hg w30 hbox hb; have n_ := y13 (Kd.R_below (zR HO_5.out) hb) (Kd.R_below (zR HO120.out) hb) (zb BK101.out hb) (IsS65.below (zI) hb) (KeepBut.trans (zK) (KeepBut.of_below hb g none) (.inl rfl)) (below_step (zB) hb) (hbox) ((by rw [hg]; exact (keep_size (w := w) (g := g) (row := none) (zK)) : w.heap.size ≤ gb121)) ((Nat.le_trans HW0.out (by rw [hg]; exact (keep_size (w := w) (g := g) (row := none) (zK)) : w.heap.size ≤ gb121) : w0.heap.size ≤ gb121)) ((zL hg BK101.out : gb101 ≠ gb121)) ((zM hg BK101.out : gb121 ≠ gb101)) ((by rw [hg]; exact Nat.ne_of_lt (IsS65.lt (show IsS65 w0 _ g s0_0 t114 t115 from zI)) : g ≠ gb121)) ((by rw [hg]; exact Nat.ne_of_gt (IsS65.lt (show IsS65 w0 _ g s0_0 t114 t115 from zI)) : gb121 ≠ g)); clear HO_5 HO120 BK101 HI0 HK HB; obtain ⟨HO_5, HO120, BK101, HI0, HK, HB, BK121, GW121, GE121, NB101_121, NB121_101, NB0_121, NB121_0⟩ := n_; clear hb hbox hg; have hnb31 := NB121_101.out; have hnc31 := NB101_121.out; have hnb32 := NB121_0.out; have hnc32 := NB0_121.out; have hcz33_0 := zc BK121.out; have hfz33_0 := blk_frozen BK121.out 0))
         go_loopg [8] kj11 (fun kq v8 w' => ∃ (x8_3 : Int) (x1001_3 : Int) (x1002_3 : Int) (x122000_3 : List Int) (u122000 : Value), v8 = .int .i64 x8_3 ∧ Aside0 (spec_l01DrawServed.l1 kq (wrap64 (1 + t108)) x5_1 x8_3 s0_0 x1001_3 x1002_3 x122000_3 = some (r1, r2, r3, r4)) ∧ Aside0 (kq ≤ kj11) ∧ Aside0 (Kd.R (Kd.int .i64) 2 w' w.heap.size (fun k_ => some k_ ≠ (u122000 : Value).ownBlock) v112 x5_1) ∧ Aside0 (Kd.R (Kd.int .i64) 2 w' w.heap.size (fun k_ => some k_ ≠ (v112 : Value).ownBlock) u122000 x122000_3) ∧ Aside0 (w'.heap[gb101]? = some (.cells #[(.slice none 0 0)] 26 (0, 0))) ∧ Aside0 (w'.heap[gb121]? = some (.cells #[u122000] 26 (0, 0))) ∧ Aside0 (IsS65 w0 w' g s0_0 x1001_3 x1002_3) ∧ Aside0 (KeepBut w w' g none) ∧ Aside0 (Below w0.heap.size w0 w'))
         case atStart => exact ⟨(0), (t114), (t115), (y118), (.slice Ao29 y118.length co29), zF, H', ⟨Nat.le_refl _⟩, ⟨by refine zR ?_; exact Kd.R_mono (Kd.R_far (p := ⟨gb121, 0, none⟩) (Kd.R_types HO_5.out BK121.out (by decide)) (fun _ hk => hk.2) (.slice Ao29 y118.length co29)) (fun _ hk => hk.1.2)⟩, ⟨by refine zR ?_; exact Kd.R_mono (Kd.R_far (p := ⟨gb121, 0, none⟩) (Kd.R_types HO120.out BK121.out (by decide)) (fun _ hk => hk.2) (.slice Ao29 y118.length co29)) (fun _ hk => hk.1.2)⟩, ⟨by refine zG ?_; refine blk_far ?_ NB101_121.out _; refine zG ?_; exact BK101.out⟩, ⟨by refine zG ?_; refine blk_put (cs := #[.slice none 0 0]) ?_ 0 _ rfl; refine zG ?_; exact BK121.out⟩, ⟨zI⟩, ⟨zK⟩, ⟨zB⟩⟩
         case round =>
           clear H'
           try clear c15
           try clear hcz33_0
           try clear hfz33_0
           obtain ⟨x8_3, x1001_3, x1002_3, x122000_3, u122000, rfl, HA, HK3, HO_5, HO_122000, BK101, BK121, HI0, HK, HB⟩ := hrel
           cases gk with
           | zero => exact absurd HA.out (by simp [spec_l01DrawServed.l1])
           | succ k3 =>
             have H := HA.out
             clear HA
             simp only [spec_l01DrawServed.l1] at H
             by_cases c34 : x8_3 < (wrap64 (1 + t108))
             · rw [if_pos c34] at H
               have c34b0 : decide (x8_3 < (wrap64 (1 + t108))) = true := decide_eq_true c34
               clear c34
               replace H := Option.bind_eq_some_iff.mp H
               obtain ⟨t122, A350, H⟩ := H
               replace H : (if t122 = 0 then (spec_l01DrawServed.j3 k3 (wrap64 (1 + t108)) x5_1 x8_3 40 s0_0 x1001_3 x1002_3 x122000_3) else (spec_l01DrawServed.j3 k3 (wrap64 (1 + t108)) x5_1 x8_3 t122 s0_0 x1001_3 x1002_3 x122000_3)) = some (r1, r2, r3, r4) := H
               have A35 := Aside0.mk A350
               clear A350
               have HC36 := Aside0.mk H
               clear H
               obtain ⟨Ao37, co37, eo37⟩ := Kd.R_slice HO_5.out
               subst eo37
               go_upto_if 49 with (first | ((with_reducible refine gate_callee (f := 74) rfl ?_); refine goesL_ (some 47) rfl rfl Try.func74 zk rfl #[.slice Ao37 x5_1.length co37, .int .i64 x8_3] rfl zA ?_; (with_reducible refine (spec_l01Greatest.calls k3 _ _ x5_1 x8_3 t122 _ ?side1 ?side2 A35.out).mono ?_); (case side1 => exact zC (Kd.R_reads' HO_5.out).2.2); (case side2 => exact (Kd.R_reads' HO_5.out).2.1); rintro e w38 ⟨rfl, hb⟩; refine ⟨_, rfl, ?_⟩; have n_ := y7 (Kd.R_below (zR HO_5.out) hb) (Kd.R_below (zR HO_122000.out) hb) (zb BK101.out hb) (zb BK121.out hb) (IsS65.below (zI) hb) (KeepBut.trans (zK) (KeepBut.of_below hb g none) (.inl rfl)) (below_step (zB) hb); clear HO_5 HO_122000 BK101 BK121 HI0 HK HB; obtain ⟨HO_5, HO_122000, BK101, BK121, HI0, HK, HB⟩ := n_; (try clear hb); (try clear hb2); (try clear hk); (try clear hi)))
               (try simp only [Act.put, List.setIfInBounds_toArray, List.set_cons_zero, List.set_cons_succ])
               go_cut [9] (fun v9 wc => ∃ (kq : Nat) (x9_35 : Int), v9 = .int .i64 x9_35 ∧ Aside0 (spec_l01DrawServed.j3 kq (wrap64 (1 + t108)) x5_1 x8_3 x9_35 s0_0 x1001_3 x1002_3 x122000_3 = some (r1, r2, r3, r4)) ∧ Aside0 (kq ≤ k3) ∧ Aside0 (Kd.R (Kd.int .i64) 2 wc w.heap.size (fun k_ => some k_ ≠ (u122000 : Value).ownBlock) (.slice Ao37 x5_1.length co37) x5_1) ∧ Aside0 (Kd.R (Kd.int .i64) 2 wc w.heap.size (fun k_ => some k_ ≠ ((.slice Ao37 x5_1.length co37) : Value).ownBlock) u122000 x122000_3) ∧ Aside0 (wc.heap[gb101]? = some (.cells #[(.slice none 0 0)] 26 (0, 0))) ∧ Aside0 (wc.heap[gb121]? = some (.cells #[u122000] 26 (0, 0))) ∧ Aside0 (IsS65 w0 wc g s0_0 x1001_3 x1002_3) ∧ Aside0 (KeepBut w wc g none) ∧ Aside0 (Below w0.heap.size w0 wc))
               case first =>
                 have H := HC36.out
                 clear HC36
                 by_cases c39 : t122 = 0
                 · rw [if_pos c39] at H
                   have c39b0 : (t122 == 0) = true := beq_iff_eq.mpr c39
                   have c39b1 : (t122 != 0) = false := bne_eq_false_iff_eq.mpr c39
                   clear c39
                   (first | rw [c39b0] | (simp only [i64_w, i32_w]; rw [c39b0]) | skip)
                   have H' := Aside0.mk H
                   clear H
                   go_wp2
                   go_meet
                   case rel => exact ⟨_, (40), zF, H', ⟨by have := HK1.out; have := HJ11.out; have := HK3.out; first | omega | exact Nat.le_refl _⟩, ⟨zR HO_5.out⟩, ⟨zR HO_122000.out⟩, ⟨zG BK101.out⟩, ⟨zG BK121.out⟩, ⟨zI⟩, ⟨zK⟩, ⟨zB⟩⟩
                 · rw [if_neg c39] at H
                   have c39b0 : (t122 == 0) = false := beq_eq_false_iff_ne.mpr c39
                   have c39b1 : (t122 != 0) = true := bne_iff_ne.mpr c39
                   (first | rw [c39b0] | (simp only [i64_w, i32_w]; rw [c39b0]) | skip)
                   have H' := Aside0.mk H
                   clear H
                   go_wp2
                   go_meet
                   case rel => exact ⟨_, (t122), zF, H', ⟨by have := HK1.out; have := HJ11.out; have := HK3.out; first | omega | exact Nat.le_refl _⟩, ⟨zR HO_5.out⟩, ⟨zR HO_122000.out⟩, ⟨zG BK101.out⟩, ⟨zG BK121.out⟩, ⟨zI⟩, ⟨zK⟩, ⟨zB⟩⟩
               case rest =>
                 clear HC36
                 try clear c15
                 try clear c34
                 try clear c34b0
                 try clear hcz33_0
                 try clear hfz33_0
                 obtain ⟨kq, x9_35, rfl, HA, HJ35, HO_5, HO_122000, BK101, BK121, HI0, HK, HB⟩ := hcut
                 cases kq with
                 | zero => exact absurd HA.out (by simp [spec_l01DrawServed.j3])
                 | succ kj35 =>
                   have H := HA.out
                   clear HA
                   simp only [spec_l01DrawServed.j3] at H
                   replace H := Option.bind_eq_some_iff.mp H
                   obtain ⟨⟨t123, t124, t125⟩, A400, H⟩ := H
                   replace H : (if t123 = 0 then ((spec_l01Next.f s0_0 t124 t125 4).bind fun bt126 => (if x122000_3.length < 17592186044416 then (spec_l01DrawServed.l1 kj35 (wrap64 (1 + t108)) x5_1 (wrap64 (x8_3 + 1)) s0_0 bt126.2.1 bt126.2.2 (x122000_3 ++ [mx (mn (wrap64 ((wrap64 (x9_35 + bt126.1)) - 1)) 40) 1])) else (none))) else (if x122000_3.length < 17592186044416 then (spec_l01DrawServed.l1 kj35 (wrap64 (1 + t108)) x5_1 (wrap64 (x8_3 + 1)) s0_0 t124 t125 (x122000_3 ++ [mx (mn x9_35 40) 1])) else (none))) = some (r1, r2, r3, r4) := H
                   have A40 := Aside0.mk A400
                   clear A400
                   by_cases c41 : t123 = 0
                   · rw [if_pos c41] at H
                     have c41b0 : (t123 == 0) = true := beq_iff_eq.mpr c41
                     have c41b1 : (t123 != 0) = false := bne_eq_false_iff_eq.mpr c41
                     clear c41
                     replace H := Option.bind_eq_some_iff.mp H
                     obtain ⟨⟨t126, t127, t128⟩, A420, H⟩ := H
                     replace H : (if x122000_3.length < 17592186044416 then (spec_l01DrawServed.l1 kj35 (wrap64 (1 + t108)) x5_1 (wrap64 (x8_3 + 1)) s0_0 t127 t128 (x122000_3 ++ [mx (mn (wrap64 ((wrap64 (x9_35 + t126)) - 1)) 40) 1])) else (none)) = some (r1, r2, r3, r4) := H
                     have A42 := Aside0.mk A420
                     clear A420
                     obtain ⟨ji43, hji43⟩ : ∃ j_ : Int, (mn (wrap64 ((wrap64 (x9_35 + t126)) - 1)) 40) = j_ := ⟨_, rfl⟩
                     replace H : (if x122000_3.length < 17592186044416 then (spec_l01DrawServed.l1 kj35 (wrap64 (1 + t108)) x5_1 (wrap64 (x8_3 + 1)) s0_0 t127 t128 (x122000_3 ++ [mx (ji43) 1])) else (none)) = some (r1, r2, r3, r4) := by first | (rw [hji43] at H; exact H) | (simp only [hji43] at H ⊢; exact H)
                     (try rw [hji43] at A40)
                     (try rw [hji43] at A42)
                     have hji43_ : (if 40 < (wrap64 ((wrap64 (x9_35 + t126)) - 1)) then 40 else (wrap64 ((wrap64 (x9_35 + t126)) - 1))) = ji43 := hji43
                     obtain ⟨ji44, hji44⟩ : ∃ j_ : Int, (mx (ji43) 1) = j_ := ⟨_, rfl⟩
                     replace H : (if x122000_3.length < 17592186044416 then (spec_l01DrawServed.l1 kj35 (wrap64 (1 + t108)) x5_1 (wrap64 (x8_3 + 1)) s0_0 t127 t128 (x122000_3 ++ [ji44])) else (none)) = some (r1, r2, r3, r4) := by first | (rw [hji44] at H; exact H) | (simp only [hji44] at H ⊢; exact H)
                     (try rw [hji44] at A40)
                     (try rw [hji44] at A42)
                     have hji44_ : (if (ji43) < 1 then 1 else (ji43)) = ji44 := hji44
                     by_cases c45 : x122000_3.length < 17592186044416
                     · rw [if_pos c45] at H
                       have LMc45 := Aside0.mk c45
                       clear c45
                       obtain ⟨y129, hy129⟩ : ∃ y_ : List Int, y_ = (x122000_3 ++ [ji44]) := ⟨_, rfl⟩
                       replace H : (spec_l01DrawServed.l1 kj35 (wrap64 (1 + t108)) x5_1 (wrap64 (x8_3 + 1)) s0_0 t127 t128 y129) = some (r1, r2, r3, r4) := zH hy129
                       have Ny129 := Aside0.mk hy129
                       clear hy129
                       have H' := Aside0.mk H
                       clear H
                       go_wp2_with (first | ((with_reducible refine gate_callee (f := 45) rfl ?_); refine goesL_ (some 51) rfl rfl Try.func45 zk rfl #[.pointer (some ⟨g, 0, none⟩), .int .i64 4] rfl zA ?_; (with_reducible refine (spec_l01Next.calls g s0_0 x1001_3 x1002_3 4 t123 t124 t125 w0 _ ?side1 ?side2 A40.out).mono ?_); (case side1 => exact zI); (case side2 => exact zB); rintro e w46 ⟨rfl, hi, hb, hk⟩; refine ⟨_, rfl, ?_⟩; have n_ := y7 (Kd.R_mono (Kd.R_keep (IsS65.apart (show IsS65 w0 _ g s0_0 x1001_3 x1002_3 from zI) (zR HO_5.out) (by decide)) hk (fun _ h => h.2)) (fun _ h => h.1)) (Kd.R_mono (Kd.R_keep (IsS65.apart (show IsS65 w0 _ g s0_0 x1001_3 x1002_3 from zI) (zR HO_122000.out) (by decide)) hk (fun _ h => h.2)) (fun _ h => h.1)) (KeepBut.blk hk (g' := gb101) (o := .cells #[.slice none 0 0] 26 (0, 0)) (zG BK101.out) NB101_0.out (by simp)) (KeepBut.blk hk (g' := gb121) (o := .cells #[u122000] 26 (0, 0)) (zG BK121.out) NB121_0.out (by simp)) (KeepBut.trans (zK) hk (.inl rfl)) (hb) (hi); clear HO_5 HO_122000 BK101 BK121 HK HB HI0; obtain ⟨HO_5, HO_122000, BK101, BK121, HK, HB, HI0⟩ := n_; (try clear hb); (try clear hb2); (try clear hk); (try clear hi)) | ((with_reducible refine gate_callee (f := 45) rfl ?_); refine goesL_ (some 55) rfl rfl Try.func45 zk rfl #[.pointer (some ⟨g, 0, none⟩), .int .i64 4] rfl zA ?_; (with_reducible refine (spec_l01Next.calls g s0_0 t124 t125 4 t126 t127 t128 w0 _ ?side1 ?side2 A42.out).mono ?_); (case side1 => exact zI); (case side2 => exact zB); rintro e w47 ⟨rfl, hi, hb, hk⟩; refine ⟨_, rfl, ?_⟩; have n_ := y7 (Kd.R_mono (Kd.R_keep (IsS65.apart (show IsS65 w0 _ g s0_0 t124 t125 from zI) (zR HO_5.out) (by decide)) hk (fun _ h => h.2)) (fun _ h => h.1)) (Kd.R_mono (Kd.R_keep (IsS65.apart (show IsS65 w0 _ g s0_0 t124 t125 from zI) (zR HO_122000.out) (by decide)) hk (fun _ h => h.2)) (fun _ h => h.1)) (KeepBut.blk hk (g' := gb101) (o := .cells #[.slice none 0 0] 26 (0, 0)) (zG BK101.out) NB101_0.out (by simp)) (KeepBut.blk hk (g' := gb121) (o := .cells #[u122000] 26 (0, 0)) (zG BK121.out) NB121_0.out (by simp)) (KeepBut.trans (zK) hk (.inl rfl)) (hb) (hi); clear HO_5 HO_122000 BK101 BK121 HK HB HI0; obtain ⟨HO_5, HO_122000, BK101, BK121, HK, HB, HI0⟩ := n_; (try clear hb); (try clear hb2); (try clear hk); (try clear hi); have hnb48 := NB121_101.out; have hnc48 := NB101_121.out; have hnb49 := NB121_0.out; have hnc49 := NB0_121.out; have hcz50_0 := zc BK121.out; have hfz50_0 := blk_frozen BK121.out 0) | ((with_reducible refine gate_builtin (b := .append) (xs := #[.tmp 59, .tmp 63]) rfl ?_); (try (refine gate_guard (by rfl) ?_; dsimp only)); at_builtin; refine Kd.R_append (Kd.int .i64) w.heap.size rfl (.tmp 59) (.tmp 63) 24 2 (.int .i64 0) 8 rfl Try.underlying24 info2 rfl (by decide) (by omega) u122000 x122000_3 ji44 [.int .i64 ji44] (fun k_ => some k_ ≠ (.slice Ao37 x5_1.length co37 : Value).ownBlock) (fun _ => False) rfl rfl ?aP (fun _ hk => hk.elim) ?aF ?aO (Below.refl _ _) ?aS ?aL ?_; (case aP => exact rfl); (case aF => exact (fun k_ hk => Kd.fresh' (Kd.R_lt (zR HO_5.out)) k_ hk)); (case aO => exact (zR HO_122000.out)); (case aS => exact (keep_size (w := w) (g := g) (row := none) (zK))); (case aL => have := LMc45.out; omega); intro v130 w51 ho hb hg hat; rw [← Ny129.out] at ho; have n_ := y7 (Kd.R_after (ok := (fun _ => True)) (by refine zR ?_; exact Kd.R_mono HO_5.out (fun _ hk => ⟨trivial, hk⟩)) hg hat) (blk_grown (g := gb101) (o := .cells #[.slice none 0 0] 26 (0, 0)) (zG BK101.out) hg (Kd.R_ne HO_122000.out BK101.out (by decide))) (blk_grown (g := gb121) (o := .cells #[u122000] 26 (0, 0)) (zG BK121.out) hg (Kd.R_ne HO_122000.out BK121.out (by decide))) (IsS65.grown (zI) hg (IsS65.own_ne HI0.out HO_122000.out (by decide))) (below_weaken (zB) HL.out hb) (KeepBut.trans (zK) (KeepBut.of_grown hg g) (Kd.R_base2 HO_122000.out)) (ho); clear HO_5 BK101 BK121 HI0 HB HK HO_122000; obtain ⟨HO_5, BK101, BK121, HI0, HB, HK, HO131⟩ := n_; clear ho hb hg hat; obtain ⟨Ao52, co52, eo52⟩ := Kd.R_slice HO131.out; subst eo52; have hcz53_0 := zc BK121.out; have hfz53_0 := blk_frozen BK121.out 0))
                       go_roundg kj35
                       case measure => have := HK1.out; have := HJ11.out; have := HK3.out; have := HJ35.out; omega
                       case rel => exact ⟨(wrap64 (x8_3 + 1)), (t127), (t128), (y129), (.slice Ao52 y129.length co52), zF, H', ⟨by have := HK1.out; have := HJ11.out; have := HK3.out; have := HJ35.out; omega⟩, ⟨by refine zR ?_; exact Kd.R_mono (Kd.R_far (p := ⟨gb121, 0, none⟩) (Kd.R_types HO_5.out BK121.out (by decide)) (fun _ hk => hk.2) (.slice Ao52 y129.length co52)) (fun _ hk => hk.1.2)⟩, ⟨by refine zR ?_; exact Kd.R_mono (Kd.R_far (p := ⟨gb121, 0, none⟩) (Kd.R_types HO131.out BK121.out (by decide)) (fun _ hk => hk.2) (.slice Ao52 y129.length co52)) (fun _ hk => hk.1)⟩, ⟨by refine zG ?_; refine blk_far ?_ NB101_121.out _; refine zG ?_; exact BK101.out⟩, ⟨by refine zG ?_; refine blk_put (cs := #[u122000]) ?_ 0 _ rfl; refine zG ?_; exact BK121.out⟩, ⟨zI⟩, ⟨zK⟩, ⟨zB⟩⟩
                     · rw [if_neg c45] at H
                       exact absurd H (by simp)
                   · rw [if_neg c41] at H
                     have c41b0 : (t123 == 0) = false := beq_eq_false_iff_ne.mpr c41
                     have c41b1 : (t123 != 0) = true := bne_iff_ne.mpr c41
                     obtain ⟨ji54, hji54⟩ : ∃ j_ : Int, (mn x9_35 40) = j_ := ⟨_, rfl⟩
                     replace H : (if x122000_3.length < 17592186044416 then (spec_l01DrawServed.l1 kj35 (wrap64 (1 + t108)) x5_1 (wrap64 (x8_3 + 1)) s0_0 t124 t125 (x122000_3 ++ [mx (ji54) 1])) else (none)) = some (r1, r2, r3, r4) := by first | (rw [hji54] at H; exact H) | (simp only [hji54] at H ⊢; exact H)
                     (try rw [hji54] at A40)
                     have hji54_ : (if 40 < x9_35 then 40 else x9_35) = ji54 := hji54
                     obtain ⟨ji55, hji55⟩ : ∃ j_ : Int, (mx (ji54) 1) = j_ := ⟨_, rfl⟩
                     replace H : (if x122000_3.length < 17592186044416 then (spec_l01DrawServed.l1 kj35 (wrap64 (1 + t108)) x5_1 (wrap64 (x8_3 + 1)) s0_0 t124 t125 (x122000_3 ++ [ji55])) else (none)) = some (r1, r2, r3, r4) := by first | (rw [hji55] at H; exact H) | (simp only [hji55] at H ⊢; exact H)
                     (try rw [hji55] at A40)
                     have hji55_ : (if (ji54) < 1 then 1 else (ji54)) = ji55 := hji55
                     by_cases c56 : x122000_3.length < 17592186044416
                     · rw [if_pos c56] at H
                       have LMc56 := Aside0.mk c56
                       clear c56
                       obtain ⟨y132, hy132⟩ : ∃ y_ : List Int, y_ = (x122000_3 ++ [ji55]) := ⟨_, rfl⟩
                       replace H : (spec_l01DrawServed.l1 kj35 (wrap64 (1 + t108)) x5_1 (wrap64 (x8_3 + 1)) s0_0 t124 t125 y132) = some (r1, r2, r3, r4) := zH hy132
                       have Ny132 := Aside0.mk hy132
                       clear hy132
                       have H' := Aside0.mk H
                       clear H
                       go_wp2_with (first | ((with_reducible refine gate_callee (f := 45) rfl ?_); refine goesL_ (some 51) rfl rfl Try.func45 zk rfl #[.pointer (some ⟨g, 0, none⟩), .int .i64 4] rfl zA ?_; (with_reducible refine (spec_l01Next.calls g s0_0 x1001_3 x1002_3 4 t123 t124 t125 w0 _ ?side1 ?side2 A40.out).mono ?_); (case side1 => exact zI); (case side2 => exact zB); rintro e w57 ⟨rfl, hi, hb, hk⟩; refine ⟨_, rfl, ?_⟩; have n_ := y7 (Kd.R_mono (Kd.R_keep (IsS65.apart (show IsS65 w0 _ g s0_0 x1001_3 x1002_3 from zI) (zR HO_5.out) (by decide)) hk (fun _ h => h.2)) (fun _ h => h.1)) (Kd.R_mono (Kd.R_keep (IsS65.apart (show IsS65 w0 _ g s0_0 x1001_3 x1002_3 from zI) (zR HO_122000.out) (by decide)) hk (fun _ h => h.2)) (fun _ h => h.1)) (KeepBut.blk hk (g' := gb101) (o := .cells #[.slice none 0 0] 26 (0, 0)) (zG BK101.out) NB101_0.out (by simp)) (KeepBut.blk hk (g' := gb121) (o := .cells #[u122000] 26 (0, 0)) (zG BK121.out) NB121_0.out (by simp)) (KeepBut.trans (zK) hk (.inl rfl)) (hb) (hi); clear HO_5 HO_122000 BK101 BK121 HK HB HI0; obtain ⟨HO_5, HO_122000, BK101, BK121, HK, HB, HI0⟩ := n_; (try clear hb); (try clear hb2); (try clear hk); (try clear hi); have hnb58 := NB121_101.out; have hnc58 := NB101_121.out; have hnb59 := NB121_0.out; have hnc59 := NB0_121.out; have hcz60_0 := zc BK121.out; have hfz60_0 := blk_frozen BK121.out 0) | ((with_reducible refine gate_builtin (b := .append) (xs := #[.tmp 59, .tmp 63]) rfl ?_); (try (refine gate_guard (by rfl) ?_; dsimp only)); at_builtin; refine Kd.R_append (Kd.int .i64) w.heap.size rfl (.tmp 59) (.tmp 63) 24 2 (.int .i64 0) 8 rfl Try.underlying24 info2 rfl (by decide) (by omega) u122000 x122000_3 ji55 [.int .i64 ji55] (fun k_ => some k_ ≠ (.slice Ao37 x5_1.length co37 : Value).ownBlock) (fun _ => False) rfl rfl ?aP (fun _ hk => hk.elim) ?aF ?aO (Below.refl _ _) ?aS ?aL ?_; (case aP => exact rfl); (case aF => exact (fun k_ hk => Kd.fresh' (Kd.R_lt (zR HO_5.out)) k_ hk)); (case aO => exact (zR HO_122000.out)); (case aS => exact (keep_size (w := w) (g := g) (row := none) (zK))); (case aL => have := LMc56.out; omega); intro v133 w61 ho hb hg hat; rw [← Ny132.out] at ho; have n_ := y7 (Kd.R_after (ok := (fun _ => True)) (by refine zR ?_; exact Kd.R_mono HO_5.out (fun _ hk => ⟨trivial, hk⟩)) hg hat) (blk_grown (g := gb101) (o := .cells #[.slice none 0 0] 26 (0, 0)) (zG BK101.out) hg (Kd.R_ne HO_122000.out BK101.out (by decide))) (blk_grown (g := gb121) (o := .cells #[u122000] 26 (0, 0)) (zG BK121.out) hg (Kd.R_ne HO_122000.out BK121.out (by decide))) (IsS65.grown (zI) hg (IsS65.own_ne HI0.out HO_122000.out (by decide))) (below_weaken (zB) HL.out hb) (KeepBut.trans (zK) (KeepBut.of_grown hg g) (Kd.R_base2 HO_122000.out)) (ho); clear HO_5 BK101 BK121 HI0 HB HK HO_122000; obtain ⟨HO_5, BK101, BK121, HI0, HB, HK, HO134⟩ := n_; clear ho hb hg hat; obtain ⟨Ao62, co62, eo62⟩ := Kd.R_slice HO134.out; subst eo62; have hcz63_0 := zc BK121.out; have hfz63_0 := blk_frozen BK121.out 0))
                       go_roundg kj35
                       case measure => have := HK1.out; have := HJ11.out; have := HK3.out; have := HJ35.out; omega
                       case rel => exact ⟨(wrap64 (x8_3 + 1)), (t124), (t125), (y132), (.slice Ao62 y132.length co62), zF, H', ⟨by have := HK1.out; have := HJ11.out; have := HK3.out; have := HJ35.out; omega⟩, ⟨by refine zR ?_; exact Kd.R_mono (Kd.R_far (p := ⟨gb121, 0, none⟩) (Kd.R_types HO_5.out BK121.out (by decide)) (fun _ hk => hk.2) (.slice Ao62 y132.length co62)) (fun _ hk => hk.1.2)⟩, ⟨by refine zR ?_; exact Kd.R_mono (Kd.R_far (p := ⟨gb121, 0, none⟩) (Kd.R_types HO134.out BK121.out (by decide)) (fun _ hk => hk.2) (.slice Ao62 y132.length co62)) (fun _ hk => hk.1)⟩, ⟨by refine zG ?_; refine blk_far ?_ NB101_121.out _; refine zG ?_; exact BK101.out⟩, ⟨by refine zG ?_; refine blk_put (cs := #[u122000]) ?_ 0 _ rfl; refine zG ?_; exact BK121.out⟩, ⟨zI⟩, ⟨zK⟩, ⟨zB⟩⟩
                     · rw [if_neg c56] at H
                       exact absurd H (by simp)
             · rw [if_neg c34] at H
               have c34b0 : decide (x8_3 < (wrap64 (1 + t108))) = false := decide_eq_false c34
               clear c34
               simp only [Option.some.injEq, Prod.mk.injEq] at H
               obtain ⟨rfl, rfl, rfl, rfl⟩ := H
               have hnb64 := NB121_101.out
               have hnc64 := NB101_121.out
               have hnb65 := NB121_0.out
               have hnc65 := NB0_121.out
               have hcz66_0 := zc BK121.out
               have hfz66_0 := blk_frozen BK121.out 0
               obtain ⟨Ao67, co67, eo67⟩ := Kd.R_slice HO_122000.out
               subst eo67
               have hnb68 := NB101_0.out
               have hnc68 := NB0_101.out
               have hcz69_0 := zc BK101.out
               have hfz69_0 := blk_frozen BK101.out 0
               go_wp2
               refine bodyPost_ret (results_ct rfl _ _ gb101 26 #[.slice Ao67 x122000_3.length co67] (0, 0) _ rfl (by refine zG ?_; refine blk_put (cs := #[.slice none 0 0]) ?_ 0 _ rfl; refine zG ?_; exact BK101.out) Try.underlying26 rfl zk) rfl ?_
               exact ⟨_, _, zE, by refine zR ?_; exact Kd.R_mono (Kd.R_far (p := ⟨gb101, 0, none⟩) (Kd.R_types HO_122000.out BK101.out (by decide)) (fun _ hk => hk.2) (.slice Ao67 x122000_3.length co67)) (fun _ hk => hk.1), by refine zR ?_; exact Kd.R_mono (Kd.R_far (p := ⟨gb101, 0, none⟩) (Kd.R_types HO_5.out BK101.out (by decide)) (fun _ hk => hk.2) (.slice Ao67 x122000_3.length co67)) (fun _ hk => hk.1), zI, zB, zK⟩
end Go.Proofs.Ytgbapmmfhdphmaa.P
end
section
namespace Go.Proofs.Ytgbapmmfhdphmaa.P
open Go.RowKit Go.Proofs.YtgbapmmfhdphmaaW.PrintWords Go.Proofs.YtgbapmmfhdphmaaW.PrintLast Go.Proofs.YtgbapmmfhdphmaaW.PrintMore
attribute [local go_sem] max2_int min2_int max_two min_two max_three min_three max_four min_four   -- for this text's walks alone
set_option linter.unusedVariables false
set_option linter.unusedSimpArgs false
def spec_l01DrawOf.l0 : Nat → Int → Int → List Int → Int → Int → List Int → Option (List Int × Int × Int)
  | 0, _, _, _, _, _, _ => none
  | k + 1, x1, x6, x1000, x1001, x1002, x106000 => if x6 < x1 then ((spec_l01Pick.f x1000 x1001 x1002 (([4, 8, 12, 40] : List Int))).bind fun bt109 => ((spec_l01Next.f x1000 bt109.2.1 bt109.2.2 bt109.1).bind fun bt112 => (if x106000.length < 17592186044416 then (spec_l01DrawOf.l0 k x1 (wrap64 (x6 + 1)) x1000 bt112.2.1 bt112.2.2 (x106000 ++ [wrap64 (1 + bt112.1)])) else (none)))) else (some (x106000, x1001, x1002))
def spec_l01DrawOf.f (k : Nat) (s0_0 : List Int) (s0_1 : Int) (s0_2 : Int) (a1 : Int) : Option (List Int × Int × Int) := spec_l01DrawOf.l0 k a1 0 s0_0 s0_1 s0_2 (([] : List Int))
theorem spec_l01DrawOf.mono_l : ∀ k, (∀ y0 y1 y2 y3 y4 y5, LeO (spec_l01DrawOf.l0 k y0 y1 y2 y3 y4 y5) (spec_l01DrawOf.l0 (k + 1) y0 y1 y2 y3 y4 y5))
  | 0 => fun _ _ _ _ _ _ r h => by simp [spec_l01DrawOf.l0] at h
  | k + 1 => by
    have ih0 := spec_l01DrawOf.mono_l k
    · intro y0 y1 y2 y3 y4 y5
      unfold spec_l01DrawOf.l0
      repeat' first | (with_reducible exact ih0 _ _ _ _ _ _) | (with_reducible exact LeO.refl _) | (with_reducible exact LeO.none _) | (with_reducible refine LeO.ite ?_ ?_) | (with_reducible refine LeO.bind ?_ (fun _ => ?_)) | exact ih0 _ _ _ _ _ _ | exact LeO.none _ | refine LeO.ite ?_ ?_ | refine LeO.bind ?_ (fun _ => ?_)
theorem spec_l01DrawOf.mono : ∀ a0 a1 a2 a3 k, LeO (spec_l01DrawOf.f k a0 a1 a2 a3) (spec_l01DrawOf.f (k + 1) a0 a1 a2 a3) := by
  intro a0 a1 a2 a3 k
  have ih0 := spec_l01DrawOf.mono_l k
  unfold spec_l01DrawOf.f
  repeat' first | (with_reducible exact ih0 _ _ _ _ _ _) | (with_reducible exact LeO.refl _) | (with_reducible exact LeO.none _) | (with_reducible refine LeO.ite ?_ ?_) | (with_reducible refine LeO.bind ?_ (fun _ => ?_)) | exact ih0 _ _ _ _ _ _ | exact LeO.none _ | refine LeO.ite ?_ ?_ | refine LeO.bind ?_ (fun _ => ?_)
def spec_l01DrawOf.T5 : Bool × List (List Nat × List Nat) := (true, [([], []), ([0], [0]), ([], []), ([], []), ([], []), ([3, 4], [3, 4]), ([2, 5, 5], [2, 5]), ([6], [6]), ([7], [7]), ([1, 8, 6], [1, 8]), ([0, 1, 2, 3, 4, 5, 6, 7, 8, 9], []), ([10, 9, 9, 0, 1, 2, 3, 4, 5, 6, 7, 8, 9], [9, 10])])
def spec_l01DrawOf.B5 : List Nat := [0, 1, 0, 0, 0, 24, 60, 124, 252, 511, 1023, 2047]
theorem spec_l01DrawOf.tab5 : rtab .any (opsOf Try.f64 5) = spec_l01DrawOf.T5 := by kernel_rfl
theorem spec_l01DrawOf.bits5 : waitsOk spec_l01DrawOf.T5.2 spec_l01DrawOf.B5 = true := by kernel_rfl
set_option maxHeartbeats 8000000 in
set_option maxRecDepth 100000 in
theorem spec_l01DrawOf.calls (k : Nat) (g : Nat) (s0_0 : List Int) (s0_1 : Int) (s0_2 : Int) (a1 : Int) (r1 : List Int) (r2 : Int) (r3 : Int) (w0 w : World) (hI : IsS65 w0 w g s0_0 s0_1 s0_2) (hB : Below w0.heap.size w0 w) (h : spec_l01DrawOf.f k s0_0 s0_1 s0_2 a1 = some (r1, r2, r3)) :
    Calls Try.prog 64 #[.pointer (some ⟨g, 0, none⟩), .int .i64 a1] w fun e w' => ∃ v0_ : Value, e = .returned (.agg #[v0_]) ∧ Kd.R (Kd.int .i64) 2 w' w.heap.size (fun _ => True) v0_ r1 ∧ IsS65 w0 w' g s0_0 r2 r3 ∧ Below w0.heap.size w0 w' ∧ KeepBut w w' g none := by
 have hu26 := Try.underlying26
 have HI0 := Aside0.mk hI
 have HK := Aside0.mk (KeepBut.refl w g none)
 have HL := Aside0.mk hB.size
 clear hI
 have HW0 := Aside0.mk hB.size
 have HB := Aside0.mk hB
 clear hB
 have H : (spec_l01DrawOf.l0 k a1 0 s0_0 s0_1 s0_2 (([] : List Int))) = some (r1, r2, r3) := h
 clear h
 obtain ⟨y102, hy102⟩ : ∃ y_ : List Int, y_ = (([] : List Int)) := ⟨_, rfl⟩
 replace H : (spec_l01DrawOf.l0 k a1 0 s0_0 s0_1 s0_2 y102) = some (r1, r2, r3) := zH hy102
 have Ny102 := Aside0.mk hy102
 clear hy102
 have H' := Aside0.mk H
 clear H
 go_enter Try.func64, Try.ntmps64
 go_wp2_with (first | ((with_reducible refine gate_dst (N := 4) rfl ?_); refine box_event zr (N := 4) zr (cs := #[.slice none 0 0]) (t := 26) zg ?_; intro gb101 hg w3 hbox hb; have n_ := y8 (IsS65.below (zI) hb) (KeepBut.trans (zK) (KeepBut.of_below hb g none) (.inl rfl)) (below_step (zB) hb) (hbox) ((by rw [hg]; exact (keep_size (w := w) (g := g) (row := none) (zK)) : w.heap.size ≤ gb101)) ((Nat.le_trans HW0.out (by rw [hg]; exact (keep_size (w := w) (g := g) (row := none) (zK)) : w.heap.size ≤ gb101) : w0.heap.size ≤ gb101)) ((by rw [hg]; exact Nat.ne_of_lt (IsS65.lt (show IsS65 w0 _ g s0_0 s0_1 s0_2 from zI)) : g ≠ gb101)) ((by rw [hg]; exact Nat.ne_of_gt (IsS65.lt (show IsS65 w0 _ g s0_0 s0_1 s0_2 from zI)) : gb101 ≠ g)); clear HI0 HK HB; obtain ⟨HI0, HK, HB, BK101, GW101, GE101, NB0_101, NB101_0⟩ := n_; clear hb hbox hg) | ((with_reducible refine gate_dst (N := 7) rfl ?_); refine Kd.R_lit (Kd.int .i64) _ 2 ?hg (N := 7) ?hd (xs := ([] : List Int)) (inner := []) (ok := fun _ => True) (okp := fun _ => True) ?hr ?hp (fun _ hk => hk) trivial (Below.refl _ _) (Nat.le_refl _) (by simp) ?_; (case hd => rfl); (case hg => rfl); (case hr => first | (go_simp; done) | (go_simp; rfl)); (case hp => exact (Reps.none _ _)); intro v103 w4 ho5 hb hg_ hnew_; clear hg_ hnew_; (first | rw [← Ny102.out] at ho5 | (simp only [Int.reduceToNat] at ho5; rw [← Ny102.out] at ho5)); have n_ := y5 (Kd.R_lower ho5 (keep_size (w := w) (g := g) (row := none) (zK))) (IsS65.below (zI) hb) (zb BK101.out hb) (KeepBut.trans (zK) (KeepBut.of_below hb g none) (.inl rfl)) (below_step (zB) hb); clear HI0 BK101 HK HB; obtain ⟨HO104, HI0, BK101, HK, HB⟩ := n_; clear hb ho5; obtain ⟨Ao6, co6, eo6⟩ := Kd.R_slice HO104.out; subst eo6) | ((with_reducible refine gate_dst (N := 5) rfl ?_); refine box_event zr (N := 5) zr (cs := #[.slice none 0 0]) (t := 26) zg ?_; intro gb105 hg w7 hbox hb; have n_ := y12 (Kd.R_below (zR HO104.out) hb) (IsS65.below (zI) hb) (zb BK101.out hb) (KeepBut.trans (zK) (KeepBut.of_below hb g none) (.inl rfl)) (below_step (zB) hb) (hbox) ((by rw [hg]; exact (keep_size (w := w) (g := g) (row := none) (zK)) : w.heap.size ≤ gb105)) ((Nat.le_trans HW0.out (by rw [hg]; exact (keep_size (w := w) (g := g) (row := none) (zK)) : w.heap.size ≤ gb105) : w0.heap.size ≤ gb105)) ((zL hg BK101.out : gb101 ≠ gb105)) ((zM hg BK101.out : gb105 ≠ gb101)) ((by rw [hg]; exact Nat.ne_of_lt (IsS65.lt (show IsS65 w0 _ g s0_0 s0_1 s0_2 from zI)) : g ≠ gb105)) ((by rw [hg]; exact Nat.ne_of_gt (IsS65.lt (show IsS65 w0 _ g s0_0 s0_1 s0_2 from zI)) : gb105 ≠ g)); clear HO104 HI0 BK101 HK HB; obtain ⟨HO104, HI0, BK101, HK, HB, BK105, GW105, GE105, NB101_105, NB105_101, NB0_105, NB105_0⟩ := n_; clear hb hbox hg; have hnb8 := NB105_101.out; have hnc8 := NB101_105.out; have hnb9 := NB105_0.out; have hnc9 := NB0_105.out; have hcz10_0 := zc BK105.out; have hfz10_0 := blk_frozen BK105.out 0))
 go_loopg [6] k (fun kq v6 w' => ∃ (x6_1 : Int) (x1001_1 : Int) (x1002_1 : Int) (x106000_1 : List Int) (u106000 : Value), v6 = .int .i64 x6_1 ∧ Aside0 (spec_l01DrawOf.l0 kq a1 x6_1 s0_0 x1001_1 x1002_1 x106000_1 = some (r1, r2, r3)) ∧ Aside0 (kq ≤ k) ∧ Aside0 (Kd.R (Kd.int .i64) 2 w' w.heap.size (fun _ => True) u106000 x106000_1) ∧ Aside0 (w'.heap[gb101]? = some (.cells #[(.slice none 0 0)] 26 (0, 0))) ∧ Aside0 (w'.heap[gb105]? = some (.cells #[u106000] 26 (0, 0))) ∧ Aside0 (IsS65 w0 w' g s0_0 x1001_1 x1002_1) ∧ Aside0 (KeepBut w w' g none) ∧ Aside0 (Below w0.heap.size w0 w'))
 case atStart => exact ⟨(0), (s0_1), (s0_2), (y102), (.slice Ao6 y102.length co6), zF, H', ⟨Nat.le_refl _⟩, ⟨by refine zR ?_; exact Kd.R_mono (Kd.R_far (p := ⟨gb105, 0, none⟩) (Kd.R_types HO104.out BK105.out (by decide)) (fun _ hk => hk.2) (.slice Ao6 y102.length co6)) (fun _ hk => trivial)⟩, ⟨by refine zG ?_; refine blk_far ?_ NB101_105.out _; refine zG ?_; exact BK101.out⟩, ⟨by refine zG ?_; refine blk_put (cs := #[.slice none 0 0]) ?_ 0 _ rfl; refine zG ?_; exact BK105.out⟩, ⟨zI⟩, ⟨zK⟩, ⟨zB⟩⟩
 clear H'
 try clear hcz10_0
 try clear hfz10_0
 obtain ⟨x6_1, x1001_1, x1002_1, x106000_1, u106000, rfl, HA, HK1, HO_106000, BK101, BK105, HI0, HK, HB⟩ := hrel
 cases gk with
 | zero => exact absurd HA.out (by simp [spec_l01DrawOf.l0])
 | succ k1 =>
   have H := HA.out
   clear HA
   simp only [spec_l01DrawOf.l0] at H
   by_cases c11 : x6_1 < a1
   · rw [if_pos c11] at H
     have c11b0 : decide (x6_1 < a1) = true := decide_eq_true c11
     clear c11
     obtain ⟨y106, hy106⟩ : ∃ y_ : List Int, y_ = (([4, 8, 12, 40] : List Int)) := ⟨_, rfl⟩
     replace H : ((spec_l01Pick.f s0_0 x1001_1 x1002_1 y106).bind fun bt109 => ((spec_l01Next.f s0_0 bt109.2.1 bt109.2.2 bt109.1).bind fun bt112 => (if x106000_1.length < 17592186044416 then (spec_l01DrawOf.l0 k1 a1 (wrap64 (x6_1 + 1)) s0_0 bt112.2.1 bt112.2.2 (x106000_1 ++ [wrap64 (1 + bt112.1)])) else (none)))) = some (r1, r2, r3) := zH hy106
     have Ny106 := Aside0.mk hy106
     clear hy106
     replace H := Option.bind_eq_some_iff.mp H
     obtain ⟨⟨t109, t110, t111⟩, A120, H⟩ := H
     replace H : ((spec_l01Next.f s0_0 t110 t111 t109).bind fun bt112 => (if x106000_1.length < 17592186044416 then (spec_l01DrawOf.l0 k1 a1 (wrap64 (x6_1 + 1)) s0_0 bt112.2.1 bt112.2.2 (x106000_1 ++ [wrap64 (1 + bt112.1)])) else (none))) = some (r1, r2, r3) := H
     have A12 := Aside0.mk A120
     clear A120
     replace H := Option.bind_eq_some_iff.mp H
     obtain ⟨⟨t112, t113, t114⟩, A130, H⟩ := H
     replace H : (if x106000_1.length < 17592186044416 then (spec_l01DrawOf.l0 k1 a1 (wrap64 (x6_1 + 1)) s0_0 t113 t114 (x106000_1 ++ [wrap64 (1 + t112)])) else (none)) = some (r1, r2, r3) := H
     have A13 := Aside0.mk A130
     clear A130
     by_cases c14 : x106000_1.length < 17592186044416
     · rw [if_pos c14] at H
       have LMc14 := Aside0.mk c14
       clear c14
       obtain ⟨y115, hy115⟩ : ∃ y_ : List Int, y_ = (x106000_1 ++ [wrap64 (1 + t112)]) := ⟨_, rfl⟩
       replace H : (spec_l01DrawOf.l0 k1 a1 (wrap64 (x6_1 + 1)) s0_0 t113 t114 y115) = some (r1, r2, r3) := zH hy115
       have Ny115 := Aside0.mk hy115
       clear hy115
       have H' := Aside0.mk H
       clear H
       try go_wp2
       have n_ := y6 (Kd.R_drew HO_106000.out) (blk_drew BK101.out) (blk_drew BK105.out) (IsS65.drew HI0.out) (keep_drew HK.out) (below_drew1 HB.out)
       clear HO_106000 BK101 BK105 HI0 HK HB
       obtain ⟨HO_106000, BK101, BK105, HI0, HK, HB⟩ := n_
       refine start_ (n := 12) (S := fun w' => w'.cell? ⟨gb105, 0, none⟩ = some (u106000)) (ds := [11]) #[false,false,false,false,false,false,false,false,false,false,false,false] zk rfl rfl ((blk_cell BK105.out 0).trans rfl) (fun hHeld => ?_); refine with_tabW spec_l01DrawOf.tab5 spec_l01DrawOf.bits5 (fun HT_ HW_ => ?_)
       generalize wr.drew = w15 at HO_106000 BK101 BK105 HI0 HK HB hHeld ⊢
       refine pure_ (i := 0) (N := some 14) (v := ?_) (a' := ?_) #[true,false,false,false,false,false,false,false,false,false,false,false] rfl rfl (any_of HT_.out zk) (fun _ _ _ h => h) (Or.inl ⟨by rfl, ?_⟩) ?_ ?_
       rotate_left; exact zp; rotate_left; exact zq
       refine pure_ (i := 2) (N := some 16) (v := ?_) (a' := ?_) #[true,false,true,false,false,false,false,false,false,false,false,false] rfl rfl (any_of HT_.out zk) (fun _ _ _ h => h) (Or.inl ⟨by rfl, ?_⟩) ?_ ?_
       rotate_left; exact zp; rotate_left; exact zq
       refine pure_ (i := 3) (N := some 17) (v := ?_) (a' := ?_) #[true,false,true,true,false,false,false,false,false,false,false,false] rfl rfl (any_of HT_.out zk) (fun _ _ _ h => h) (Or.inl ⟨by rfl, ?_⟩) ?_ ?_
       rotate_left; exact zp; rotate_left; exact zq
       refine take_ (i := 1) (N := some 15) (v := ?_) (a' := ?_) #[true,true,true,true,false,false,false,false,false,false,false,false] rfl rfl (take_ofW HT_.out HW_.out zk) (fun _ _ _ h => h) (Or.inl ⟨by rfl, ?_⟩) hHeld ?_ ?_
       rotate_left
       · intro w' s0
         go_simp
         with_reducible rfl
       rotate_left
       · simp only [Act.put, List.setIfInBounds_toArray, List.set_cons_zero, List.set_cons_succ, i64_w, i32_w]
         rfl
       refine one_ (i := 4) (N := some 18) #[true,true,true,true,true,false,false,false,false,false,false,false] rfl rfl (one_of HT_.out zk) (by decide) (fun K hK => ?_)
       refine Kd.R_lit_step (Kd.int .i64) _ 2 ?hg (N := 18) ?hd (xs := ([4, 8, 12, 40] : List Int)) (inner := [.int .i64 4, .int .i64 8, .int .i64 12, .int .i64 40]) (ok := fun _ => True) (okp := fun _ => True) ?hr ?hp (fun _ hk => hk) trivial (Below.refl _ _) (Nat.le_refl _) (by simp) ?_; (case hd => rfl); (case hg => rfl); (case hr => first | (go_simp; done) | (go_simp; rfl)); (case hp => exact (Reps.one (show Kd.M (Kd.int .i64) _ _ _ 4 [.int .i64 4] from rfl) (Reps.one (show Kd.M (Kd.int .i64) _ _ _ 8 [.int .i64 8] from rfl) (Reps.one (show Kd.M (Kd.int .i64) _ _ _ 12 [.int .i64 12] from rfl) (Reps.one (show Kd.M (Kd.int .i64) _ _ _ 40 [.int .i64 40] from rfl) (Reps.none _ _))))))
       intro v107 w16 ho17 hb hg_ hnew_
       clear hg_ hnew_
       (first | rw [← Ny106.out] at ho17 | (simp only [Int.reduceToNat] at ho17; rw [← Ny106.out] at ho17))
       have n_ := y7 (Kd.R_elder' (zR HO_106000.out) (Kd.R_base ho17) hb) (Kd.R_lower (Kd.R_new' ho17 (Kd.R_lt (zR HO_106000.out))) (keep_size (w := w) (g := g) (row := none) (zK))) (zb BK101.out hb) (zb BK105.out hb) (IsS65.below (zI) hb) (KeepBut.trans (zK) (KeepBut.of_below hb g none) (.inl rfl)) (below_step (zB) hb)
       clear HO_106000 BK101 BK105 HI0 HK HB
       obtain ⟨HO_106000, HO108, BK101, BK105, HI0, HK, HB⟩ := n_
       clear hb ho17
       obtain ⟨Ao18, co18, eo18⟩ := Kd.R_slice HO108.out
       (first | subst eo18 | (injection eo18 with f1_ f2_ f3_; have f4_ := f1_.symm; have f5_ := f3_.symm; clear f1_ f2_ f3_; subst f4_; subst f5_))
       refine hK.out _ _ ((blk_cell BK105.out 0).trans rfl) (fun hHeld => ?_)
       clear hK K
       refine norm_ (a' := ?_) ?_ ?_
       rotate_left
       · show Act.put _ (some 18) _ = _
         simp only [Act.put, List.setIfInBounds_toArray, List.set_cons_zero, List.set_cons_succ, i64_w, i32_w]
         rfl
       refine one_ (i := 5) (N := some 19) #[true,true,true,true,true,true,false,false,false,false,false,false] rfl rfl (one_of HT_.out zk) (by decide) (fun K hK => ?_)
       refine goes_ Try.func37 zk rfl #[.pointer (some ⟨g, 0, none⟩), .slice Ao18 y106.length co18] (by rfl) rfl rfl zA ?_
       with_reducible refine (spec_l01Pick.calls g s0_0 x1001_1 x1002_1 _ _ y106 t109 t110 t111 w0 _ ?side1 ?side2 ?side3 ?side4 ?side5 A12.out).mono ?_
       (case side1 => exact zI)
       (case side2 => exact zB)
       (case side3 => exact zC (Kd.R_reads' HO108.out).2.2)
       (case side4 => exact (Kd.R_reads' HO108.out).2.1)
       (case side5 => exact far_slice (IsS65.own_ne HI0.out HO108.out (by decide)))
       rintro e w19 ⟨rfl, hi, hb, hk⟩
       refine ⟨_, rfl, ?_⟩
       have n_ := y7 (Kd.R_mono (Kd.R_keep (IsS65.apart (show IsS65 w0 _ g s0_0 x1001_1 x1002_1 from zI) (zR HO_106000.out) (by decide)) hk (fun _ h => h.2)) (fun _ h => h.1)) (KeepBut.blk hk (g' := gb101) (o := .cells #[.slice none 0 0] 26 (0, 0)) (zG BK101.out) NB101_0.out (by simp)) (KeepBut.blk hk (g' := gb105) (o := .cells #[u106000] 26 (0, 0)) (zG BK105.out) NB105_0.out (by simp)) (Kd.R_mono (Kd.R_keep (IsS65.apart (show IsS65 w0 _ g s0_0 x1001_1 x1002_1 from zI) (zR HO108.out) (by decide)) hk (fun _ h => h.2)) (fun _ h => h.1)) (KeepBut.trans (zK) hk (.inl rfl)) (hb) (hi)
       clear HO_106000 BK101 BK105 HO108 HK HB HI0
       obtain ⟨HO_106000, BK101, BK105, HO108, HK, HB, HI0⟩ := n_
       (try clear hb)
       (try clear hb2)
       (try clear hk)
       (try clear hi)
       refine hK.out _ _ ((blk_cell BK105.out 0).trans rfl) (fun hHeld => ?_)
       clear hK K
       refine norm_ (a' := ?_) ?_ ?_
       rotate_left
       · show Act.put _ (some 19) _ = _
         simp only [Act.put, List.setIfInBounds_toArray, List.set_cons_zero, List.set_cons_succ, i64_w, i32_w]
         rfl
       refine one_ (i := 6) (N := some 20) #[true,true,true,true,true,true,true,false,false,false,false,false] rfl rfl (one_of HT_.out zk) (by decide) (fun K hK => ?_)
       refine goes_ Try.func45 zk rfl #[.pointer (some ⟨g, 0, none⟩), .int .i64 t109] (by rfl) rfl rfl zA ?_
       with_reducible refine (spec_l01Next.calls g s0_0 t110 t111 t109 t112 t113 t114 w0 _ ?side1 ?side2 A13.out).mono ?_
       (case side1 => exact zI)
       (case side2 => exact zB)
       rintro e w20 ⟨rfl, hi, hb, hk⟩
       refine ⟨_, rfl, ?_⟩
       have n_ := y7 (Kd.R_mono (Kd.R_keep (IsS65.apart (show IsS65 w0 _ g s0_0 t110 t111 from zI) (zR HO_106000.out) (by decide)) hk (fun _ h => h.2)) (fun _ h => h.1)) (KeepBut.blk hk (g' := gb101) (o := .cells #[.slice none 0 0] 26 (0, 0)) (zG BK101.out) NB101_0.out (by simp)) (KeepBut.blk hk (g' := gb105) (o := .cells #[u106000] 26 (0, 0)) (zG BK105.out) NB105_0.out (by simp)) (Kd.R_mono (Kd.R_keep (IsS65.apart (show IsS65 w0 _ g s0_0 t110 t111 from zI) (zR HO108.out) (by decide)) hk (fun _ h => h.2)) (fun _ h => h.1)) (KeepBut.trans (zK) hk (.inl rfl)) (hb) (hi)
       clear HO_106000 BK101 BK105 HO108 HK HB HI0
       obtain ⟨HO_106000, BK101, BK105, HO108, HK, HB, HI0⟩ := n_
       (try clear hb)
       (try clear hb2)
       (try clear hk)
       (try clear hi)
       refine hK.out _ _ ((blk_cell BK105.out 0).trans rfl) (fun hHeld => ?_)
       clear hK K
       refine norm_ (a' := ?_) ?_ ?_
       rotate_left
       · show Act.put _ (some 20) _ = _
         simp only [Act.put, List.setIfInBounds_toArray, List.set_cons_zero, List.set_cons_succ, i64_w, i32_w]
         rfl
       refine pure_ (i := 7) (N := some 21) (v := ?_) (a' := ?_) #[true,true,true,true,true,true,true,true,false,false,false,false] rfl rfl (any_of HT_.out zk) (fun _ _ _ h => h) (Or.inl ⟨by rfl, ?_⟩) ?_ ?_
       rotate_left; exact zp; rotate_left; exact zq
       refine one_ (i := 8) (N := some 22) #[true,true,true,true,true,true,true,true,true,false,false,false] rfl rfl (one_of HT_.out zk) (by decide) (fun K hK => ?_)
       refine value_ (w1 := ?_) (v := ?_) (by rfl) rfl ?_ ?_
       rotate_left 2
       · go_simp
         constructor
         · rfl
         · rfl
       refine hK.out _ _ ((blk_cell (blk_alloc BK105.out _) 0).trans rfl) (fun hHeld => ?_)
       clear hK K
       refine norm_ (a' := ?_) ?_ ?_
       rotate_left
       · show Act.put _ (some 22) _ = _
         simp only [Act.put, List.setIfInBounds_toArray, List.set_cons_zero, List.set_cons_succ, i64_w, i32_w]
         rfl
       refine one_ (i := 9) (N := some 23) #[true,true,true,true,true,true,true,true,true,true,false,false] rfl rfl (one_of HT_.out zk) (by decide) (fun K hK => ?_)
       refine Kd.R_append_step (Kd.int .i64) w.heap.size (by rfl) (.tmp 15) (.tmp 22) 24 2 (.int .i64 0) 8 rfl Try.underlying24 info2 rfl (by decide) (by omega) u106000 x106000_1 (wrap64 (1 + t112)) [.int .i64 (wrap64 (1 + t112))] (fun k_ => some k_ ≠ (.slice Ao18 y106.length co18 : Value).ownBlock) (fun _ => False) rfl rfl ?aP (fun _ hk => hk.elim) ?aF ?aO (Below.refl _ _) ?aS ?aL ?_
       (case aP => exact rfl)
       (case aF => exact (fun k_ hk => Kd.fresh' (Kd.R_lt (zR HO108.out)) k_ hk))
       (case aO => exact (by refine zR ?_; exact Kd.R_mono HO_106000.out (fun _ hk => hk.2)))
       (case aS => exact (keep_size (w := w) (g := g) (row := none) (zK)))
       (case aL => have := LMc14.out; omega)
       intro v116 w21 ho hb hg hat
       rw [← Ny115.out] at ho
       have n_ := y7 (blk_grown (g := gb101) (o := .cells #[.slice none 0 0] 26 (0, 0)) (zG BK101.out) hg (Kd.R_ne HO_106000.out BK101.out (by decide))) (blk_grown (g := gb105) (o := .cells #[u106000] 26 (0, 0)) (zG BK105.out) hg (Kd.R_ne HO_106000.out BK105.out (by decide))) (IsS65.grown (zI) hg (IsS65.own_ne HI0.out HO_106000.out (by decide))) (Kd.R_after (ok := (fun _ => True)) (zR HO108.out) hg hat) (below_weaken (zB) HL.out hb) (KeepBut.trans (zK) (KeepBut.of_grown hg g) (Kd.R_base2 HO_106000.out)) (ho)
       clear BK101 BK105 HI0 HO108 HB HK HO_106000
       obtain ⟨BK101, BK105, HI0, HO108, HB, HK, HO117⟩ := n_
       clear ho hb hg hat
       obtain ⟨Ao22, co22, eo22⟩ := Kd.R_slice HO117.out
       (first | subst eo22 | (injection eo22 with f1_ f2_ f3_; have f4_ := f1_.symm; have f5_ := f3_.symm; clear f1_ f2_ f3_; subst f4_; subst f5_))
       refine hK.out _ _ ((blk_cell BK105.out 0).trans rfl) (fun hHeld => ?_)
       clear hK K
       refine norm_ (a' := ?_) ?_ ?_
       rotate_left
       · show Act.put _ (some 23) _ = _
         simp only [Act.put, List.setIfInBounds_toArray, List.set_cons_zero, List.set_cons_succ, i64_w, i32_w]
         rfl
       refine pure_ (i := 10) (N := some 24) (v := ?_) (a' := ?_) #[true,true,true,true,true,true,true,true,true,true,true,false] rfl rfl (any_of HT_.out zk) (fun _ _ _ h => h) (Or.inl ⟨by rfl, ?_⟩) ?_ ?_
       rotate_left; exact zp; rotate_left; exact zq
       refine last_ (i := 11) (N := none) #[true,true,true,true,true,true,true,true,true,true,true,true] rfl rfl (one_of HT_.out zk) (by decide) (fun K hK => ?_)
       have hs23 : w21.cell? ⟨gb105, 0, none⟩ = some (u106000) := (blk_cell BK105.out 0).trans rfl
       have hfs23 := blk_frozen BK105.out 0
       have hns23_0 := NB101_105.out
       have hms23_0 := NB105_101.out
       refine skip_ (w1 := ?_) (by rfl) rfl ?_ ?_
       rotate_left
       · go_simp
         rfl
       refine hK.out _ _ ?_
       clear hK K
       refine done_ (done_of HT_.out zk) ?_
       try go_wp2
       go_roundg k1
       case measure => have := HK1.out; omega
       case rel => exact ⟨(wrap64 (x6_1 + 1)), (t113), (t114), (y115), (.slice Ao22 y115.length co22), zF, H', ⟨by have := HK1.out; omega⟩, ⟨by refine zR ?_; exact Kd.R_mono (Kd.R_far (p := ⟨gb105, 0, none⟩) (Kd.R_types HO117.out BK105.out (by decide)) (fun _ hk => hk.2) (.slice Ao22 y115.length co22)) (fun _ hk => trivial)⟩, ⟨by refine zG ?_; refine blk_far ?_ NB101_105.out _; refine zG ?_; exact BK101.out⟩, ⟨by refine zG ?_; refine blk_put (cs := #[u106000]) ?_ 0 _ rfl; refine zG ?_; exact BK105.out⟩, ⟨zI⟩, ⟨zK⟩, ⟨zB⟩⟩
     · rw [if_neg c14] at H
       exact absurd H (by simp)
   · rw [if_neg c11] at H
     have c11b0 : decide (x6_1 < a1) = false := decide_eq_false c11
     clear c11
     simp only [Option.some.injEq, Prod.mk.injEq] at H
     obtain ⟨rfl, rfl, rfl⟩ := H
     have hnb24 := NB105_101.out
     have hnc24 := NB101_105.out
     have hnb25 := NB105_0.out
     have hnc25 := NB0_105.out
     have hcz26_0 := zc BK105.out
     have hfz26_0 := blk_frozen BK105.out 0
     obtain ⟨Ao27, co27, eo27⟩ := Kd.R_slice HO_106000.out
     subst eo27
     have hnb28 := NB101_0.out
     have hnc28 := NB0_101.out
     have hcz29_0 := zc BK101.out
     have hfz29_0 := blk_frozen BK101.out 0
     go_wp2
     refine bodyPost_ret (results_cell_row rfl _ _ gb101 26 #[.slice Ao27 x106000_1.length co27] (0, 0) _ rfl (by refine zG ?_; refine blk_put (cs := #[.slice none 0 0]) ?_ 0 _ rfl; refine zG ?_; exact BK101.out) Try.underlying26 rfl zk) rfl ?_
     exact ⟨_, zE, by refine zR ?_; exact Kd.R_mono (Kd.R_far (p := ⟨gb101, 0, none⟩) (Kd.R_types HO_106000.out BK101.out (by decide)) (fun _ hk => hk.2) (.slice Ao27 x106000_1.length co27)) (fun _ hk => trivial), zI, zB, zK⟩
end Go.Proofs.Ytgbapmmfhdphmaa.P
end
section
namespace Go.Proofs.Ytgbapmmfhdphmaa.P
open Go.RowKit Go.Proofs.YtgbapmmfhdphmaaW.PrintWords Go.Proofs.YtgbapmmfhdphmaaW.PrintLast Go.Proofs.YtgbapmmfhdphmaaW.PrintMore
attribute [local go_sem] max2_int min2_int max_two min_two max_three min_three max_four min_four   -- for this text's walks alone
set_option linter.unusedVariables false
set_option linter.unusedSimpArgs false
def spec_l01Draw.f (k : Nat) (s0_0 : List Int) (s0_1 : Int) (s0_2 : Int) : Option (List Int × Int × Int) := (spec_l01Next.f s0_0 s0_1 s0_2 2).bind fun bt102 => (if bt102.1 = 0 then ((spec_l01DrawServed.f k s0_0 bt102.2.1 bt102.2.2).bind fun bt105 => (some (bt105.1, bt105.2.2.1, bt105.2.2.2))) else ((spec_l01Pick.f s0_0 bt102.2.1 bt102.2.2 (([3, 5, 8] : List Int))).bind fun bt117 => ((spec_l01Next.f s0_0 bt117.2.1 bt117.2.2 bt117.1).bind fun bt120 => ((spec_l01DrawOf.f k s0_0 bt120.2.1 bt120.2.2 (wrap64 (1 + bt120.1))).bind fun bt123 => (some (bt123.1, bt123.2.1, bt123.2.2))))))
theorem spec_l01Draw.mono : ∀ a0 a1 a2 k, LeO (spec_l01Draw.f k a0 a1 a2) (spec_l01Draw.f (k + 1) a0 a1 a2) := by
  intro a0 a1 a2 k
  unfold spec_l01Draw.f
  repeat' first | (with_reducible exact spec_l01DrawOf.mono _ _ _ _ _) | (with_reducible exact spec_l01DrawServed.mono _ _ _ _) | (with_reducible exact LeO.refl _) | (with_reducible exact LeO.none _) | (with_reducible refine LeO.ite ?_ ?_) | (with_reducible refine LeO.bind ?_ (fun _ => ?_)) | exact spec_l01DrawOf.mono _ _ _ _ _ | exact spec_l01DrawServed.mono _ _ _ _ | exact LeO.none _ | refine LeO.ite ?_ ?_ | refine LeO.bind ?_ (fun _ => ?_)
set_option maxHeartbeats 8000000 in
set_option maxRecDepth 100000 in
theorem spec_l01Draw.calls (k : Nat) (g : Nat) (s0_0 : List Int) (s0_1 : Int) (s0_2 : Int) (r1 : List Int) (r2 : Int) (r3 : Int) (w0 w : World) (hI : IsS65 w0 w g s0_0 s0_1 s0_2) (hB : Below w0.heap.size w0 w) (h : spec_l01Draw.f k s0_0 s0_1 s0_2 = some (r1, r2, r3)) :
    Calls Try.prog 47 #[.pointer (some ⟨g, 0, none⟩)] w fun e w' => ∃ v0_ : Value, e = .returned (.agg #[v0_]) ∧ Kd.R (Kd.int .i64) 2 w' w.heap.size (fun _ => True) v0_ r1 ∧ IsS65 w0 w' g s0_0 r2 r3 ∧ Below w0.heap.size w0 w' ∧ KeepBut w w' g none := by
 have hu26 := Try.underlying26
 have HI0 := Aside0.mk hI
 have HK := Aside0.mk (KeepBut.refl w g none)
 have HL := Aside0.mk hB.size
 clear hI
 have HW0 := Aside0.mk hB.size
 have HB := Aside0.mk hB
 clear hB
 have H : ((spec_l01Next.f s0_0 s0_1 s0_2 2).bind fun bt102 => (if bt102.1 = 0 then ((spec_l01DrawServed.f k s0_0 bt102.2.1 bt102.2.2).bind fun bt105 => (some (bt105.1, bt105.2.2.1, bt105.2.2.2))) else ((spec_l01Pick.f s0_0 bt102.2.1 bt102.2.2 (([3, 5, 8] : List Int))).bind fun bt117 => ((spec_l01Next.f s0_0 bt117.2.1 bt117.2.2 bt117.1).bind fun bt120 => ((spec_l01DrawOf.f k s0_0 bt120.2.1 bt120.2.2 (wrap64 (1 + bt120.1))).bind fun bt123 => (some (bt123.1, bt123.2.1, bt123.2.2))))))) = some (r1, r2, r3) := h
 clear h
 replace H := Option.bind_eq_some_iff.mp H
 obtain ⟨⟨t102, t103, t104⟩, A20, H⟩ := H
 replace H : (if t102 = 0 then ((spec_l01DrawServed.f k s0_0 t103 t104).bind fun bt105 => (some (bt105.1, bt105.2.2.1, bt105.2.2.2))) else ((spec_l01Pick.f s0_0 t103 t104 (([3, 5, 8] : List Int))).bind fun bt117 => ((spec_l01Next.f s0_0 bt117.2.1 bt117.2.2 bt117.1).bind fun bt120 => ((spec_l01DrawOf.f k s0_0 bt120.2.1 bt120.2.2 (wrap64 (1 + bt120.1))).bind fun bt123 => (some (bt123.1, bt123.2.1, bt123.2.2)))))) = some (r1, r2, r3) := H
 have A2 := Aside0.mk A20
 clear A20
 by_cases c3 : t102 = 0
 ·
  rw [if_pos c3] at H
  have c3b0 : (t102 == 0) = true := beq_iff_eq.mpr c3
  have c3b1 : (t102 != 0) = false := bne_eq_false_iff_eq.mpr c3
  clear c3
  replace H := Option.bind_eq_some_iff.mp H
  obtain ⟨⟨t105, t108, t111, t112⟩, A40, H⟩ := H
  replace H : (some (t105, t111, t112)) = some (r1, r2, r3) := H
  have A4 := Aside0.mk A40
  clear A40
  simp only [Option.some.injEq, Prod.mk.injEq] at H
  obtain ⟨rfl, rfl, rfl⟩ := H
  go_enter Try.func47, Try.ntmps47
  go_wp2_with (first | ((with_reducible refine gate_dst (N := 2) rfl ?_); refine box_event zr (N := 2) zr (cs := #[.slice none 0 0]) (t := 26) zg ?_; intro gb101 hg w5 hbox hb; have n_ := y8 (IsS65.below (zI) hb) (KeepBut.trans (zK) (KeepBut.of_below hb g none) (.inl rfl)) (below_step (zB) hb) (hbox) ((by rw [hg]; exact (keep_size (w := w) (g := g) (row := none) (zK)) : w.heap.size ≤ gb101)) ((Nat.le_trans HW0.out (by rw [hg]; exact (keep_size (w := w) (g := g) (row := none) (zK)) : w.heap.size ≤ gb101) : w0.heap.size ≤ gb101)) ((by rw [hg]; exact Nat.ne_of_lt (IsS65.lt (show IsS65 w0 _ g s0_0 s0_1 s0_2 from zI)) : g ≠ gb101)) ((by rw [hg]; exact Nat.ne_of_gt (IsS65.lt (show IsS65 w0 _ g s0_0 s0_1 s0_2 from zI)) : gb101 ≠ g)); clear HI0 HK HB; obtain ⟨HI0, HK, HB, BK101, GW101, GE101, NB0_101, NB101_0⟩ := n_; clear hb hbox hg) | ((with_reducible refine gate_callee (f := 45) rfl ?_); refine goesL_ (some 6) rfl rfl Try.func45 zk rfl #[.pointer (some ⟨g, 0, none⟩), .int .i64 2] rfl zA ?_; (with_reducible refine (spec_l01Next.calls g s0_0 s0_1 s0_2 2 t102 t103 t104 w0 _ ?side1 ?side2 A2.out).mono ?_); (case side1 => exact zI); (case side2 => exact zB); rintro e w6 ⟨rfl, hi, hb, hk⟩; refine ⟨_, rfl, ?_⟩; have n_ := y4 (KeepBut.blk hk (g' := gb101) (o := .cells #[.slice none 0 0] 26 (0, 0)) (zG BK101.out) NB101_0.out (by simp)) (KeepBut.trans (zK) hk (.inl rfl)) (hb) (hi); clear BK101 HK HB HI0; obtain ⟨BK101, HK, HB, HI0⟩ := n_; (try clear hb); (try clear hb2); (try clear hk); (try clear hi)) | ((with_reducible refine gate_callee (f := 63) rfl ?_); refine goesL_ (some 10) rfl rfl Try.func63 zk rfl #[.pointer (some ⟨g, 0, none⟩)] rfl zA ?_; (with_reducible refine (spec_l01DrawServed.calls k g s0_0 t103 t104 t105 t108 t111 t112 w0 _ ?side1 ?side2 A4.out).mono ?_); (case side1 => exact zI); (case side2 => exact zB); rintro e w7 ⟨v106, v109, rfl, ho0, ho1, hi, hb, hk⟩; refine ⟨_, rfl, ?_⟩; have n_ := y6 (KeepBut.blk hk (g' := gb101) (o := .cells #[.slice none 0 0] 26 (0, 0)) (zG BK101.out) NB101_0.out (by simp)) (Kd.R_lower ho0 (keep_size (w := w) (g := g) (row := none) (zK))) (Kd.R_lower ho1 (keep_size (w := w) (g := g) (row := none) (zK))) (KeepBut.trans (zK) hk (.inl rfl)) (hb) (hi); clear BK101 HK HB HI0; obtain ⟨BK101, HO107, HO110, HK, HB, HI0⟩ := n_; (try clear hb); (try clear hb2); (try clear hk); (try clear hi); (try clear ho0); (try clear ho1)) | ((with_reducible refine gate_dst (N := 3) rfl ?_); refine box_event zr (N := 3) zr (cs := #[.slice none 0 0]) (t := 26) zg ?_; intro gb113 hg w8 hbox hb; have n_ := y13 (Kd.R_below (zR HO107.out) hb) (Kd.R_below (zR HO110.out) hb) (IsS65.below (zI) hb) (zb BK101.out hb) (KeepBut.trans (zK) (KeepBut.of_below hb g none) (.inl rfl)) (below_step (zB) hb) (hbox) ((by rw [hg]; exact (keep_size (w := w) (g := g) (row := none) (zK)) : w.heap.size ≤ gb113)) ((Nat.le_trans HW0.out (by rw [hg]; exact (keep_size (w := w) (g := g) (row := none) (zK)) : w.heap.size ≤ gb113) : w0.heap.size ≤ gb113)) ((zL hg BK101.out : gb101 ≠ gb113)) ((zM hg BK101.out : gb113 ≠ gb101)) ((by rw [hg]; exact Nat.ne_of_lt (IsS65.lt (show IsS65 w0 _ g s0_0 t111 t112 from zI)) : g ≠ gb113)) ((by rw [hg]; exact Nat.ne_of_gt (IsS65.lt (show IsS65 w0 _ g s0_0 t111 t112 from zI)) : gb113 ≠ g)); clear HO107 HO110 HI0 BK101 HK HB; obtain ⟨HO107, HO110, HI0, BK101, HK, HB, BK113, GW113, GE113, NB101_113, NB113_101, NB0_113, NB113_0⟩ := n_; clear hb hbox hg; obtain ⟨Ao9, co9, eo9⟩ := Kd.R_slice HO107.out; subst eo9; have hnb10 := NB113_101.out; have hnc10 := NB101_113.out; have hnb11 := NB113_0.out; have hnc11 := NB0_113.out; have hcz12_0 := zc BK113.out; have hfz12_0 := blk_frozen BK113.out 0; have hnb13 := NB101_0.out; have hnc13 := NB0_101.out; have hcz14_0 := zc BK101.out; have hfz14_0 := blk_frozen BK101.out 0))
  refine bodyPost_ret (results_cell_row rfl _ _ gb101 26 #[.slice Ao9 t105.length co9] (0, 0) _ rfl (by refine zG ?_; refine blk_put (cs := #[.slice none 0 0]) ?_ 0 _ rfl; refine zG ?_; refine blk_far ?_ NB101_113.out _; refine zG ?_; exact BK101.out) Try.underlying26 rfl zk) rfl ?_
  exact ⟨_, zE, by refine zR ?_; exact Kd.R_mono (Kd.R_far (p := ⟨gb101, 0, none⟩) (Kd.R_far (p := ⟨gb113, 0, none⟩) (Kd.R_types (Kd.R_types HO107.out BK113.out (by decide)) BK101.out (by decide)) (fun _ hk => hk.1.2) (.slice Ao9 t105.length co9)) (fun _ hk => hk.2) (.slice Ao9 t105.length co9)) (fun _ hk => trivial), zI, zB, zK⟩
 rw [if_neg c3] at H
 have c3b0 : (t102 == 0) = false := beq_eq_false_iff_ne.mpr c3
 have c3b1 : (t102 != 0) = true := bne_iff_ne.mpr c3
 obtain ⟨y114, hy114⟩ : ∃ y_ : List Int, y_ = (([3, 5, 8] : List Int)) := ⟨_, rfl⟩
 replace H : ((spec_l01Pick.f s0_0 t103 t104 y114).bind fun bt117 => ((spec_l01Next.f s0_0 bt117.2.1 bt117.2.2 bt117.1).bind fun bt120 => ((spec_l01DrawOf.f k s0_0 bt120.2.1 bt120.2.2 (wrap64 (1 + bt120.1))).bind fun bt123 => (some (bt123.1, bt123.2.1, bt123.2.2))))) = some (r1, r2, r3) := zH hy114
 have Ny114 := Aside0.mk hy114
 clear hy114
 replace H := Option.bind_eq_some_iff.mp H
 obtain ⟨⟨t117, t118, t119⟩, A150, H⟩ := H
 replace H : ((spec_l01Next.f s0_0 t118 t119 t117).bind fun bt120 => ((spec_l01DrawOf.f k s0_0 bt120.2.1 bt120.2.2 (wrap64 (1 + bt120.1))).bind fun bt123 => (some (bt123.1, bt123.2.1, bt123.2.2)))) = some (r1, r2, r3) := H
 have A15 := Aside0.mk A150
 clear A150
 replace H := Option.bind_eq_some_iff.mp H
 obtain ⟨⟨t120, t121, t122⟩, A160, H⟩ := H
 replace H : ((spec_l01DrawOf.f k s0_0 t121 t122 (wrap64 (1 + t120))).bind fun bt123 => (some (bt123.1, bt123.2.1, bt123.2.2))) = some (r1, r2, r3) := H
 have A16 := Aside0.mk A160
 clear A160
 replace H := Option.bind_eq_some_iff.mp H
 obtain ⟨⟨t123, t126, t127⟩, A170, H⟩ := H
 replace H : (some (t123, t126, t127)) = some (r1, r2, r3) := H
 have A17 := Aside0.mk A170
 clear A170
 simp only [Option.some.injEq, Prod.mk.injEq] at H
 obtain ⟨rfl, rfl, rfl⟩ := H
 go_enter Try.func47, Try.ntmps47
 go_wp2_with (first | ((with_reducible refine gate_dst (N := 2) rfl ?_); refine box_event zr (N := 2) zr (cs := #[.slice none 0 0]) (t := 26) zg ?_; intro gb101 hg w18 hbox hb; have n_ := y8 (IsS65.below (zI) hb) (KeepBut.trans (zK) (KeepBut.of_below hb g none) (.inl rfl)) (below_step (zB) hb) (hbox) ((by rw [hg]; exact (keep_size (w := w) (g := g) (row := none) (zK)) : w.heap.size ≤ gb101)) ((Nat.le_trans HW0.out (by rw [hg]; exact (keep_size (w := w) (g := g) (row := none) (zK)) : w.heap.size ≤ gb101) : w0.heap.size ≤ gb101)) ((by rw [hg]; exact Nat.ne_of_lt (IsS65.lt (show IsS65 w0 _ g s0_0 s0_1 s0_2 from zI)) : g ≠ gb101)) ((by rw [hg]; exact Nat.ne_of_gt (IsS65.lt (show IsS65 w0 _ g s0_0 s0_1 s0_2 from zI)) : gb101 ≠ g)); clear HI0 HK HB; obtain ⟨HI0, HK, HB, BK101, GW101, GE101, NB0_101, NB101_0⟩ := n_; clear hb hbox hg) | ((with_reducible refine gate_callee (f := 45) rfl ?_); refine goesL_ (some 6) rfl rfl Try.func45 zk rfl #[.pointer (some ⟨g, 0, none⟩), .int .i64 2] rfl zA ?_; (with_reducible refine (spec_l01Next.calls g s0_0 s0_1 s0_2 2 t102 t103 t104 w0 _ ?side1 ?side2 A2.out).mono ?_); (case side1 => exact zI); (case side2 => exact zB); rintro e w19 ⟨rfl, hi, hb, hk⟩; refine ⟨_, rfl, ?_⟩; have n_ := y4 (KeepBut.blk hk (g' := gb101) (o := .cells #[.slice none 0 0] 26 (0, 0)) (zG BK101.out) NB101_0.out (by simp)) (KeepBut.trans (zK) hk (.inl rfl)) (hb) (hi); clear BK101 HK HB HI0; obtain ⟨BK101, HK, HB, HI0⟩ := n_; (try clear hb); (try clear hb2); (try clear hk); (try clear hi)) | ((with_reducible refine gate_dst (N := 17) rfl ?_); refine Kd.R_lit (Kd.int .i64) _ 2 ?hg (N := 17) ?hd (xs := ([3, 5, 8] : List Int)) (inner := [.int .i64 3, .int .i64 5, .int .i64 8]) (ok := fun _ => True) (okp := fun _ => True) ?hr ?hp (fun _ hk => hk) trivial (Below.refl _ _) (Nat.le_refl _) (by simp) ?_; (case hd => rfl); (case hg => rfl); (case hr => first | (go_simp; done) | (go_simp; rfl)); (case hp => exact (Reps.one (show Kd.M (Kd.int .i64) _ _ _ 3 [.int .i64 3] from rfl) (Reps.one (show Kd.M (Kd.int .i64) _ _ _ 5 [.int .i64 5] from rfl) (Reps.one (show Kd.M (Kd.int .i64) _ _ _ 8 [.int .i64 8] from rfl) (Reps.none _ _))))); intro v115 w20 ho21 hb hg_ hnew_; clear hg_ hnew_; (first | rw [← Ny114.out] at ho21 | (simp only [Int.reduceToNat] at ho21; rw [← Ny114.out] at ho21)); have n_ := y5 (Kd.R_lower ho21 (keep_size (w := w) (g := g) (row := none) (zK))) (IsS65.below (zI) hb) (zb BK101.out hb) (KeepBut.trans (zK) (KeepBut.of_below hb g none) (.inl rfl)) (below_step (zB) hb); clear HI0 BK101 HK HB; obtain ⟨HO116, HI0, BK101, HK, HB⟩ := n_; clear hb ho21; obtain ⟨Ao22, co22, eo22⟩ := Kd.R_slice HO116.out; subst eo22) | ((with_reducible refine gate_callee (f := 37) rfl ?_); refine goesL_ (some 18) rfl rfl Try.func37 zk rfl #[.pointer (some ⟨g, 0, none⟩), .slice Ao22 y114.length co22] rfl zA ?_; (with_reducible refine (spec_l01Pick.calls g s0_0 t103 t104 _ _ y114 t117 t118 t119 w0 _ ?side1 ?side2 ?side3 ?side4 ?side5 A15.out).mono ?_); (case side1 => exact zI); (case side2 => exact zB); (case side3 => exact zC (Kd.R_reads' HO116.out).2.2); (case side4 => exact (Kd.R_reads' HO116.out).2.1); (case side5 => exact far_slice (IsS65.own_ne HI0.out HO116.out (by decide))); rintro e w23 ⟨rfl, hi, hb, hk⟩; refine ⟨_, rfl, ?_⟩; have n_ := y5 (KeepBut.blk hk (g' := gb101) (o := .cells #[.slice none 0 0] 26 (0, 0)) (zG BK101.out) NB101_0.out (by simp)) (Kd.R_mono (Kd.R_keep (IsS65.apart (show IsS65 w0 _ g s0_0 t103 t104 from zI) (zR HO116.out) (by decide)) hk (fun _ h => h.2)) (fun _ h => h.1)) (KeepBut.trans (zK) hk (.inl rfl)) (hb) (hi); clear BK101 HO116 HK HB HI0; obtain ⟨BK101, HO116, HK, HB, HI0⟩ := n_; (try clear hb); (try clear hb2); (try clear hk); (try clear hi)) | ((with_reducible refine gate_callee (f := 45) rfl ?_); refine goesL_ (some 19) rfl rfl Try.func45 zk rfl #[.pointer (some ⟨g, 0, none⟩), .int .i64 t117] rfl zA ?_; (with_reducible refine (spec_l01Next.calls g s0_0 t118 t119 t117 t120 t121 t122 w0 _ ?side1 ?side2 A16.out).mono ?_); (case side1 => exact zI); (case side2 => exact zB); rintro e w24 ⟨rfl, hi, hb, hk⟩; refine ⟨_, rfl, ?_⟩; have n_ := y5 (KeepBut.blk hk (g' := gb101) (o := .cells #[.slice none 0 0] 26 (0, 0)) (zG BK101.out) NB101_0.out (by simp)) (Kd.R_mono (Kd.R_keep (IsS65.apart (show IsS65 w0 _ g s0_0 t118 t119 from zI) (zR HO116.out) (by decide)) hk (fun _ h => h.2)) (fun _ h => h.1)) (KeepBut.trans (zK) hk (.inl rfl)) (hb) (hi); clear BK101 HO116 HK HB HI0; obtain ⟨BK101, HO116, HK, HB, HI0⟩ := n_; (try clear hb); (try clear hb2); (try clear hk); (try clear hi)) | ((with_reducible refine gate_callee (f := 64) rfl ?_); refine goesL_ (some 21) rfl rfl Try.func64 zk rfl #[.pointer (some ⟨g, 0, none⟩), .int .i64 (wrap64 (1 + t120))] rfl zA ?_; (with_reducible refine (spec_l01DrawOf.calls k g s0_0 t121 t122 (wrap64 (1 + t120)) t123 t126 t127 w0 _ ?side1 ?side2 A17.out).mono ?_); (case side1 => exact zI); (case side2 => exact zB); rintro e w25 ⟨v124, rfl, ho0, hi, hb, hk⟩; refine ⟨_, rfl, ?_⟩; have n_ := y6 (KeepBut.blk hk (g' := gb101) (o := .cells #[.slice none 0 0] 26 (0, 0)) (zG BK101.out) NB101_0.out (by simp)) (Kd.R_mono (Kd.R_told (Kd.R_oldK (IsS65.apart (show IsS65 w0 _ g s0_0 t121 t122 from zI) (zR HO116.out) (by decide)) hk) (Kd.R_base ho0)) (fun _ h_ => h_.1)) (Kd.R_lower (Kd.R_new' ho0 (Kd.R_lt (zR HO116.out))) (keep_size (w := w) (g := g) (row := none) (zK))) (KeepBut.trans (zK) hk (.inl rfl)) (hb) (hi); clear BK101 HO116 HK HB HI0; obtain ⟨BK101, HO116, HO125, HK, HB, HI0⟩ := n_; (try clear hb); (try clear hb2); (try clear hk); (try clear hi); (try clear ho0); obtain ⟨Ao26, co26, eo26⟩ := Kd.R_slice HO125.out; subst eo26; have hnb27 := NB101_0.out; have hnc27 := NB0_101.out; have hcz28_0 := zc BK101.out; have hfz28_0 := blk_frozen BK101.out 0))
 refine bodyPost_ret (results_cell_row rfl _ _ gb101 26 #[.slice Ao26 t123.length co26] (0, 0) _ rfl (by refine zG ?_; refine blk_put (cs := #[.slice none 0 0]) ?_ 0 _ rfl; refine zG ?_; exact BK101.out) Try.underlying26 rfl zk) rfl ?_
 exact ⟨_, zE, by refine zR ?_; exact Kd.R_mono (Kd.R_far (p := ⟨gb101, 0, none⟩) (Kd.R_types HO125.out BK101.out (by decide)) (fun _ hk => hk.2) (.slice Ao26 t123.length co26)) (fun _ hk => trivial), zI, zB, zK⟩
end Go.Proofs.Ytgbapmmfhdphmaa.P
end
section
namespace Go.Proofs.Ytgbapmmfhdphmaa.P
open Go.RowKit Go.Proofs.YtgbapmmfhdphmaaW.PrintWords Go.Proofs.YtgbapmmfhdphmaaW.PrintLast Go.Proofs.YtgbapmmfhdphmaaW.PrintMore
attribute [local go_sem] max2_int min2_int max_two min_two max_three min_three max_four min_four   -- for this text's walks alone
set_option linter.unusedVariables false
set_option linter.unusedSimpArgs false
mutual
def spec_l03Draw.l0 : Nat → Int → Int → Int → List Int → Int → Int → List Int → Option (List Int × Int × Int)
  | 0, _, _, _, _, _, _, _ => none
  | k + 1, x4, x5, x6, x1000, x1001, x1002, x114000 => if x6 > 0 then ((spec_l01Next.f x1000 x1001 x1002 6).bind fun bt129 => (spec_l03Draw.l1 k x4 x5 x6 x4 bt129.1 x1000 bt129.2.1 bt129.2.2 x114000)) else (some (x114000, x1001, x1002))
def spec_l03Draw.l1 : Nat → Int → Int → Int → Int → Int → List Int → Int → Int → List Int → Option (List Int × Int × Int)
  | 0, _, _, _, _, _, _, _, _, _ => none
  | k + 1, x4, x5, x6, x7, x8, x1000, x1001, x1002, x114000 => if x8 > 0 then (if (wrap64 (x7 * x5)) ≤ 40 then (spec_l03Draw.l1 k x4 x5 x6 (wrap64 (x7 * x5)) (wrap64 (x8 - 1)) x1000 x1001 x1002 x114000) else (if x114000.length < 17592186044416 then (spec_l03Draw.l0 k x4 x5 (wrap64 (x6 - 1)) x1000 x1001 x1002 (x114000 ++ [x7])) else (none))) else (if x114000.length < 17592186044416 then (spec_l03Draw.l0 k x4 x5 (wrap64 (x6 - 1)) x1000 x1001 x1002 (x114000 ++ [x7])) else (none))
end
def spec_l03Draw.f (k : Nat) (s0_0 : List Int) (s0_1 : Int) (s0_2 : Int) : Option (List Int × Int × Int) := (spec_l01Next.f s0_0 s0_1 s0_2 4).bind fun bt102 => (if bt102.1 = 0 then ((spec_l01Draw.f k s0_0 bt102.2.1 bt102.2.2).bind fun bt105 => (some (bt105.1, bt105.2.1, bt105.2.2))) else ((spec_l01Pick.f s0_0 bt102.2.1 bt102.2.2 (([1, 2, 2, 3, 5] : List Int))).bind fun bt117 => ((spec_l01Pick.f s0_0 bt117.2.1 bt117.2.2 (([2, 2, 3] : List Int))).bind fun bt123 => ((spec_l01Next.f s0_0 bt123.2.1 bt123.2.2 8).bind fun bt126 => (spec_l03Draw.l0 k bt117.1 bt123.1 (wrap64 (1 + bt126.1)) s0_0 bt126.2.1 bt126.2.2 (([] : List Int)))))))
theorem spec_l03Draw.mono_l : ∀ k, (∀ y0 y1 y2 y3 y4 y5 y6, LeO (spec_l03Draw.l0 k y0 y1 y2 y3 y4 y5 y6) (spec_l03Draw.l0 (k + 1) y0 y1 y2 y3 y4 y5 y6)) ∧ (∀ y0 y1 y2 y3 y4 y5 y6 y7 y8, LeO (spec_l03Draw.l1 k y0 y1 y2 y3 y4 y5 y6 y7 y8) (spec_l03Draw.l1 (k + 1) y0 y1 y2 y3 y4 y5 y6 y7 y8))
  | 0 => ⟨fun _ _ _ _ _ _ _ r h => by simp [spec_l03Draw.l0] at h, fun _ _ _ _ _ _ _ _ _ r h => by simp [spec_l03Draw.l1] at h⟩
  | k + 1 => by
    obtain ⟨ih0, ih1⟩ := spec_l03Draw.mono_l k
    refine ⟨?_, ?_⟩ <;> intros <;> (first | unfold spec_l03Draw.l0 | unfold spec_l03Draw.l1) <;> repeat' first | (with_reducible exact ih0 _ _ _ _ _ _ _) | (with_reducible exact ih1 _ _ _ _ _ _ _ _ _) | (with_reducible exact spec_l01Draw.mono _ _ _ _) | (with_reducible exact LeO.refl _) | (with_reducible exact LeO.none _) | (with_reducible refine LeO.ite ?_ ?_) | (with_reducible refine LeO.bind ?_ (fun _ => ?_)) | exact ih0 _ _ _ _ _ _ _ | exact ih1 _ _ _ _ _ _ _ _ _ | exact spec_l01Draw.mono _ _ _ _ | exact LeO.none _ | refine LeO.ite ?_ ?_ | refine LeO.bind ?_ (fun _ => ?_)
theorem spec_l03Draw.mono : ∀ a0 a1 a2 k, LeO (spec_l03Draw.f k a0 a1 a2) (spec_l03Draw.f (k + 1) a0 a1 a2) := by
  intro a0 a1 a2 k
  obtain ⟨ih0, ih1⟩ := spec_l03Draw.mono_l k
  unfold spec_l03Draw.f
  repeat' first | (with_reducible exact ih0 _ _ _ _ _ _ _) | (with_reducible exact ih1 _ _ _ _ _ _ _ _ _) | (with_reducible exact spec_l01Draw.mono _ _ _ _) | (with_reducible exact LeO.refl _) | (with_reducible exact LeO.none _) | (with_reducible refine LeO.ite ?_ ?_) | (with_reducible refine LeO.bind ?_ (fun _ => ?_)) | exact ih0 _ _ _ _ _ _ _ | exact ih1 _ _ _ _ _ _ _ _ _ | exact spec_l01Draw.mono _ _ _ _ | exact LeO.none _ | refine LeO.ite ?_ ?_ | refine LeO.bind ?_ (fun _ => ?_)
set_option maxHeartbeats 8000000 in
set_option maxRecDepth 100000 in
theorem spec_l03Draw.calls (k : Nat) (g : Nat) (s0_0 : List Int) (s0_1 : Int) (s0_2 : Int) (r1 : List Int) (r2 : Int) (r3 : Int) (w0 w : World) (hI : IsS65 w0 w g s0_0 s0_1 s0_2) (hB : Below w0.heap.size w0 w) (h : spec_l03Draw.f k s0_0 s0_1 s0_2 = some (r1, r2, r3)) :
    Calls Try.prog 24 #[.pointer (some ⟨g, 0, none⟩)] w fun e w' => ∃ v0_ : Value, e = .returned (.agg #[v0_]) ∧ Kd.R (Kd.int .i64) 2 w' w.heap.size (fun _ => True) v0_ r1 ∧ IsS65 w0 w' g s0_0 r2 r3 ∧ Below w0.heap.size w0 w' ∧ KeepBut w w' g none := by
 have hu26 := Try.underlying26
 have HI0 := Aside0.mk hI
 have HK := Aside0.mk (KeepBut.refl w g none)
 have HL := Aside0.mk hB.size
 clear hI
 have HW0 := Aside0.mk hB.size
 have HB := Aside0.mk hB
 clear hB
 have H : ((spec_l01Next.f s0_0 s0_1 s0_2 4).bind fun bt102 => (if bt102.1 = 0 then ((spec_l01Draw.f k s0_0 bt102.2.1 bt102.2.2).bind fun bt105 => (some (bt105.1, bt105.2.1, bt105.2.2))) else ((spec_l01Pick.f s0_0 bt102.2.1 bt102.2.2 (([1, 2, 2, 3, 5] : List Int))).bind fun bt117 => ((spec_l01Pick.f s0_0 bt117.2.1 bt117.2.2 (([2, 2, 3] : List Int))).bind fun bt123 => ((spec_l01Next.f s0_0 bt123.2.1 bt123.2.2 8).bind fun bt126 => (spec_l03Draw.l0 k bt117.1 bt123.1 (wrap64 (1 + bt126.1)) s0_0 bt126.2.1 bt126.2.2 (([] : List Int)))))))) = some (r1, r2, r3) := h
 clear h
 replace H := Option.bind_eq_some_iff.mp H
 obtain ⟨⟨t102, t103, t104⟩, A20, H⟩ := H
 replace H : (if t102 = 0 then ((spec_l01Draw.f k s0_0 t103 t104).bind fun bt105 => (some (bt105.1, bt105.2.1, bt105.2.2))) else ((spec_l01Pick.f s0_0 t103 t104 (([1, 2, 2, 3, 5] : List Int))).bind fun bt117 => ((spec_l01Pick.f s0_0 bt117.2.1 bt117.2.2 (([2, 2, 3] : List Int))).bind fun bt123 => ((spec_l01Next.f s0_0 bt123.2.1 bt123.2.2 8).bind fun bt126 => (spec_l03Draw.l0 k bt117.1 bt123.1 (wrap64 (1 + bt126.1)) s0_0 bt126.2.1 bt126.2.2 (([] : List Int))))))) = some (r1, r2, r3) := H
 have A2 := Aside0.mk A20
 clear A20
 by_cases c3 : t102 = 0
 ·
  rw [if_pos c3] at H
  have c3b0 : (t102 == 0) = true := beq_iff_eq.mpr c3
  have c3b1 : (t102 != 0) = false := bne_eq_false_iff_eq.mpr c3
  clear c3
  replace H := Option.bind_eq_some_iff.mp H
  obtain ⟨⟨t105, t108, t109⟩, A40, H⟩ := H
  replace H : (some (t105, t108, t109)) = some (r1, r2, r3) := H
  have A4 := Aside0.mk A40
  clear A40
  simp only [Option.some.injEq, Prod.mk.injEq] at H
  obtain ⟨rfl, rfl, rfl⟩ := H
  go_enter Try.func24, Try.ntmps24
  go_wp2_with (first | ((with_reducible refine gate_dst (N := 2) rfl ?_); refine box_event zr (N := 2) zr (cs := #[.slice none 0 0]) (t := 26) zg ?_; intro gb101 hg w5 hbox hb; have n_ := y8 (IsS65.below (zI) hb) (KeepBut.trans (zK) (KeepBut.of_below hb g none) (.inl rfl)) (below_step (zB) hb) (hbox) ((by rw [hg]; exact (keep_size (w := w) (g := g) (row := none) (zK)) : w.heap.size ≤ gb101)) ((Nat.le_trans HW0.out (by rw [hg]; exact (keep_size (w := w) (g := g) (row := none) (zK)) : w.heap.size ≤ gb101) : w0.heap.size ≤ gb101)) ((by rw [hg]; exact Nat.ne_of_lt (IsS65.lt (show IsS65 w0 _ g s0_0 s0_1 s0_2 from zI)) : g ≠ gb101)) ((by rw [hg]; exact Nat.ne_of_gt (IsS65.lt (show IsS65 w0 _ g s0_0 s0_1 s0_2 from zI)) : gb101 ≠ g)); clear HI0 HK HB; obtain ⟨HI0, HK, HB, BK101, GW101, GE101, NB0_101, NB101_0⟩ := n_; clear hb hbox hg) | ((with_reducible refine gate_callee (f := 45) rfl ?_); refine goesL_ (some 10) rfl rfl Try.func45 zk rfl #[.pointer (some ⟨g, 0, none⟩), .int .i64 4] rfl zA ?_; (with_reducible refine (spec_l01Next.calls g s0_0 s0_1 s0_2 4 t102 t103 t104 w0 _ ?side1 ?side2 A2.out).mono ?_); (case side1 => exact zI); (case side2 => exact zB); rintro e w6 ⟨rfl, hi, hb, hk⟩; refine ⟨_, rfl, ?_⟩; have n_ := y4 (KeepBut.blk hk (g' := gb101) (o := .cells #[.slice none 0 0] 26 (0, 0)) (zG BK101.out) NB101_0.out (by simp)) (KeepBut.trans (zK) hk (.inl rfl)) (hb) (hi); clear BK101 HK HB HI0; obtain ⟨BK101, HK, HB, HI0⟩ := n_; (try clear hb); (try clear hb2); (try clear hk); (try clear hi)) | ((with_reducible refine gate_callee (f := 47) rfl ?_); refine goesL_ (some 13) rfl rfl Try.func47 zk rfl #[.pointer (some ⟨g, 0, none⟩)] rfl zA ?_; (with_reducible refine (spec_l01Draw.calls k g s0_0 t103 t104 t105 t108 t109 w0 _ ?side1 ?side2 A4.out).mono ?_); (case side1 => exact zI); (case side2 => exact zB); rintro e w7 ⟨v106, rfl, ho0, hi, hb, hk⟩; refine ⟨_, rfl, ?_⟩; have n_ := y5 (KeepBut.blk hk (g' := gb101) (o := .cells #[.slice none 0 0] 26 (0, 0)) (zG BK101.out) NB101_0.out (by simp)) (Kd.R_lower ho0 (keep_size (w := w) (g := g) (row := none) (zK))) (KeepBut.trans (zK) hk (.inl rfl)) (hb) (hi); clear BK101 HK HB HI0; obtain ⟨BK101, HO107, HK, HB, HI0⟩ := n_; (try clear hb); (try clear hb2); (try clear hk); (try clear hi); (try clear ho0); obtain ⟨Ao8, co8, eo8⟩ := Kd.R_slice HO107.out; subst eo8; have hnb9 := NB101_0.out; have hnc9 := NB0_101.out; have hcz10_0 := zc BK101.out; have hfz10_0 := blk_frozen BK101.out 0))
  refine bodyPost_ret (results_cell_row rfl _ _ gb101 26 #[.slice Ao8 t105.length co8] (0, 0) _ rfl (by refine zG ?_; refine blk_put (cs := #[.slice none 0 0]) ?_ 0 _ rfl; refine zG ?_; exact BK101.out) Try.underlying26 rfl zk) rfl ?_
  exact ⟨_, zE, by refine zR ?_; exact Kd.R_mono (Kd.R_far (p := ⟨gb101, 0, none⟩) (Kd.R_types HO107.out BK101.out (by decide)) (fun _ hk => hk.2) (.slice Ao8 t105.length co8)) (fun _ hk => trivial), zI, zB, zK⟩
 rw [if_neg c3] at H
 have c3b0 : (t102 == 0) = false := beq_eq_false_iff_ne.mpr c3
 have c3b1 : (t102 != 0) = true := bne_iff_ne.mpr c3
 obtain ⟨y110, hy110⟩ : ∃ y_ : List Int, y_ = (([] : List Int)) := ⟨_, rfl⟩
 replace H : ((spec_l01Pick.f s0_0 t103 t104 (([1, 2, 2, 3, 5] : List Int))).bind fun bt117 => ((spec_l01Pick.f s0_0 bt117.2.1 bt117.2.2 (([2, 2, 3] : List Int))).bind fun bt123 => ((spec_l01Next.f s0_0 bt123.2.1 bt123.2.2 8).bind fun bt126 => (spec_l03Draw.l0 k bt117.1 bt123.1 (wrap64 (1 + bt126.1)) s0_0 bt126.2.1 bt126.2.2 y110)))) = some (r1, r2, r3) := zH hy110
 have Ny110 := Aside0.mk hy110
 clear hy110
 obtain ⟨y114, hy114⟩ : ∃ y_ : List Int, y_ = (([1, 2, 2, 3, 5] : List Int)) := ⟨_, rfl⟩
 replace H : ((spec_l01Pick.f s0_0 t103 t104 y114).bind fun bt117 => ((spec_l01Pick.f s0_0 bt117.2.1 bt117.2.2 (([2, 2, 3] : List Int))).bind fun bt123 => ((spec_l01Next.f s0_0 bt123.2.1 bt123.2.2 8).bind fun bt126 => (spec_l03Draw.l0 k bt117.1 bt123.1 (wrap64 (1 + bt126.1)) s0_0 bt126.2.1 bt126.2.2 y110)))) = some (r1, r2, r3) := zH hy114
 have Ny114 := Aside0.mk hy114
 clear hy114
 replace H := Option.bind_eq_some_iff.mp H
 obtain ⟨⟨t117, t118, t119⟩, A110, H⟩ := H
 replace H : ((spec_l01Pick.f s0_0 t118 t119 (([2, 2, 3] : List Int))).bind fun bt123 => ((spec_l01Next.f s0_0 bt123.2.1 bt123.2.2 8).bind fun bt126 => (spec_l03Draw.l0 k t117 bt123.1 (wrap64 (1 + bt126.1)) s0_0 bt126.2.1 bt126.2.2 y110))) = some (r1, r2, r3) := H
 have A11 := Aside0.mk A110
 clear A110
 obtain ⟨y120, hy120⟩ : ∃ y_ : List Int, y_ = (([2, 2, 3] : List Int)) := ⟨_, rfl⟩
 replace H : ((spec_l01Pick.f s0_0 t118 t119 y120).bind fun bt123 => ((spec_l01Next.f s0_0 bt123.2.1 bt123.2.2 8).bind fun bt126 => (spec_l03Draw.l0 k t117 bt123.1 (wrap64 (1 + bt126.1)) s0_0 bt126.2.1 bt126.2.2 y110))) = some (r1, r2, r3) := zH hy120
 have Ny120 := Aside0.mk hy120
 clear hy120
 replace H := Option.bind_eq_some_iff.mp H
 obtain ⟨⟨t123, t124, t125⟩, A120, H⟩ := H
 replace H : ((spec_l01Next.f s0_0 t124 t125 8).bind fun bt126 => (spec_l03Draw.l0 k t117 t123 (wrap64 (1 + bt126.1)) s0_0 bt126.2.1 bt126.2.2 y110)) = some (r1, r2, r3) := H
 have A12 := Aside0.mk A120
 clear A120
 replace H := Option.bind_eq_some_iff.mp H
 obtain ⟨⟨t126, t127, t128⟩, A130, H⟩ := H
 replace H : (spec_l03Draw.l0 k t117 t123 (wrap64 (1 + t126)) s0_0 t127 t128 y110) = some (r1, r2, r3) := H
 have A13 := Aside0.mk A130
 clear A130
 have H' := Aside0.mk H
 clear H
 go_enter Try.func24, Try.ntmps24
 go_wp2_with (first | ((with_reducible refine gate_dst (N := 2) rfl ?_); refine box_event zr (N := 2) zr (cs := #[.slice none 0 0]) (t := 26) zg ?_; intro gb101 hg w14 hbox hb; have n_ := y8 (IsS65.below (zI) hb) (KeepBut.trans (zK) (KeepBut.of_below hb g none) (.inl rfl)) (below_step (zB) hb) (hbox) ((by rw [hg]; exact (keep_size (w := w) (g := g) (row := none) (zK)) : w.heap.size ≤ gb101)) ((Nat.le_trans HW0.out (by rw [hg]; exact (keep_size (w := w) (g := g) (row := none) (zK)) : w.heap.size ≤ gb101) : w0.heap.size ≤ gb101)) ((by rw [hg]; exact Nat.ne_of_lt (IsS65.lt (show IsS65 w0 _ g s0_0 s0_1 s0_2 from zI)) : g ≠ gb101)) ((by rw [hg]; exact Nat.ne_of_gt (IsS65.lt (show IsS65 w0 _ g s0_0 s0_1 s0_2 from zI)) : gb101 ≠ g)); clear HI0 HK HB; obtain ⟨HI0, HK, HB, BK101, GW101, GE101, NB0_101, NB101_0⟩ := n_; clear hb hbox hg) | ((with_reducible refine gate_callee (f := 45) rfl ?_); refine goesL_ (some 10) rfl rfl Try.func45 zk rfl #[.pointer (some ⟨g, 0, none⟩), .int .i64 4] rfl zA ?_; (with_reducible refine (spec_l01Next.calls g s0_0 s0_1 s0_2 4 t102 t103 t104 w0 _ ?side1 ?side2 A2.out).mono ?_); (case side1 => exact zI); (case side2 => exact zB); rintro e w15 ⟨rfl, hi, hb, hk⟩; refine ⟨_, rfl, ?_⟩; have n_ := y4 (KeepBut.blk hk (g' := gb101) (o := .cells #[.slice none 0 0] 26 (0, 0)) (zG BK101.out) NB101_0.out (by simp)) (KeepBut.trans (zK) hk (.inl rfl)) (hb) (hi); clear BK101 HK HB HI0; obtain ⟨BK101, HK, HB, HI0⟩ := n_; (try clear hb); (try clear hb2); (try clear hk); (try clear hi)) | ((with_reducible refine gate_dst (N := 14) rfl ?_); refine Kd.R_lit (Kd.int .i64) _ 2 ?hg (N := 14) ?hd (xs := ([] : List Int)) (inner := []) (ok := fun _ => True) (okp := fun _ => True) ?hr ?hp (fun _ hk => hk) trivial (Below.refl _ _) (Nat.le_refl _) (by simp) ?_; (case hd => rfl); (case hg => rfl); (case hr => first | (go_simp; done) | (go_simp; rfl)); (case hp => exact (Reps.none _ _)); intro v111 w16 ho17 hb hg_ hnew_; clear hg_ hnew_; (first | rw [← Ny110.out] at ho17 | (simp only [Int.reduceToNat] at ho17; rw [← Ny110.out] at ho17)); have n_ := y5 (Kd.R_lower ho17 (keep_size (w := w) (g := g) (row := none) (zK))) (IsS65.below (zI) hb) (zb BK101.out hb) (KeepBut.trans (zK) (KeepBut.of_below hb g none) (.inl rfl)) (below_step (zB) hb); clear HI0 BK101 HK HB; obtain ⟨HO112, HI0, BK101, HK, HB⟩ := n_; clear hb ho17; obtain ⟨Ao18, co18, eo18⟩ := Kd.R_slice HO112.out; subst eo18) | ((with_reducible refine gate_dst (N := 3) rfl ?_); refine box_event zr (N := 3) zr (cs := #[.slice none 0 0]) (t := 26) zg ?_; intro gb113 hg w19 hbox hb; have n_ := y12 (Kd.R_below (zR HO112.out) hb) (IsS65.below (zI) hb) (zb BK101.out hb) (KeepBut.trans (zK) (KeepBut.of_below hb g none) (.inl rfl)) (below_step (zB) hb) (hbox) ((by rw [hg]; exact (keep_size (w := w) (g := g) (row := none) (zK)) : w.heap.size ≤ gb113)) ((Nat.le_trans HW0.out (by rw [hg]; exact (keep_size (w := w) (g := g) (row := none) (zK)) : w.heap.size ≤ gb113) : w0.heap.size ≤ gb113)) ((zL hg BK101.out : gb101 ≠ gb113)) ((zM hg BK101.out : gb113 ≠ gb101)) ((by rw [hg]; exact Nat.ne_of_lt (IsS65.lt (show IsS65 w0 _ g s0_0 t103 t104 from zI)) : g ≠ gb113)) ((by rw [hg]; exact Nat.ne_of_gt (IsS65.lt (show IsS65 w0 _ g s0_0 t103 t104 from zI)) : gb113 ≠ g)); clear HO112 HI0 BK101 HK HB; obtain ⟨HO112, HI0, BK101, HK, HB, BK113, GW113, GE113, NB101_113, NB113_101, NB0_113, NB113_0⟩ := n_; clear hb hbox hg; have hnb20 := NB113_101.out; have hnc20 := NB101_113.out; have hnb21 := NB113_0.out; have hnc21 := NB0_113.out; have hcz22_0 := zc BK113.out; have hfz22_0 := blk_frozen BK113.out 0) | ((with_reducible refine gate_dst (N := 17) rfl ?_); refine Kd.R_lit (Kd.int .i64) _ 2 ?hg (N := 17) ?hd (xs := ([1, 2, 2, 3, 5] : List Int)) (inner := [.int .i64 1, .int .i64 2, .int .i64 2, .int .i64 3, .int .i64 5]) (ok := fun _ => True) (okp := fun _ => True) ?hr ?hp (fun _ hk => hk) trivial (Below.refl _ _) (Nat.le_refl _) (by simp) ?_; (case hd => rfl); (case hg => rfl); (case hr => first | (go_simp; done) | (go_simp; rfl)); (case hp => exact (Reps.one (show Kd.M (Kd.int .i64) _ _ _ 1 [.int .i64 1] from rfl) (Reps.one (show Kd.M (Kd.int .i64) _ _ _ 2 [.int .i64 2] from rfl) (Reps.one (show Kd.M (Kd.int .i64) _ _ _ 2 [.int .i64 2] from rfl) (Reps.one (show Kd.M (Kd.int .i64) _ _ _ 3 [.int .i64 3] from rfl) (Reps.one (show Kd.M (Kd.int .i64) _ _ _ 5 [.int .i64 5] from rfl) (Reps.none _ _))))))); intro v115 w23 ho24 hb hg_ hnew_; clear hg_ hnew_; (first | rw [← Ny114.out] at ho24 | (simp only [Int.reduceToNat] at ho24; rw [← Ny114.out] at ho24)); have n_ := y7 (Kd.R_elder' (by refine zR ?_; exact (Kd.R_mono (Kd.R_far (p := ⟨gb113, 0, none⟩) (Kd.R_types HO112.out BK113.out (by decide)) (fun _ hk => hk.2) (.slice Ao18 y110.length co18)) (fun _ h_ => h_.1))) (Kd.R_base ho24) hb) (Kd.R_lower (Kd.R_new' ho24 (Kd.R_lt (by refine zR ?_; exact (Kd.R_mono (Kd.R_far (p := ⟨gb113, 0, none⟩) (Kd.R_types HO112.out BK113.out (by decide)) (fun _ hk => hk.2) (.slice Ao18 y110.length co18)) (fun _ h_ => h_.1))))) (keep_size (w := w) (g := g) (row := none) (zK))) (IsS65.below (show IsS65 w0 (w19.setCell ⟨gb113, 0, none⟩ (.slice Ao18 y110.length co18)) g s0_0 t103 t104 from zI) hb) (blk_below (g := gb101) (o := .cells #[.slice none 0 0] 26 (0, 0)) (by refine zG ?_; refine blk_far ?_ NB101_113.out _; refine zG ?_; exact BK101.out) hb) (blk_below (g := gb113) (o := .cells #[.slice Ao18 y110.length co18] 26 (0, 0)) (by refine zG ?_; refine blk_put (cs := #[.slice none 0 0]) ?_ 0 _ rfl; refine zG ?_; exact BK113.out) hb) (KeepBut.trans (zK) (KeepBut.of_below hb g none) (.inl rfl)) (below_step (zB) hb); clear HO112 HI0 BK101 BK113 HK HB; obtain ⟨HO112, HO116, HI0, BK101, BK113, HK, HB⟩ := n_; clear hb ho24; obtain ⟨Ao25, co25, eo25⟩ := Kd.R_slice HO116.out; subst eo25) | ((with_reducible refine gate_callee (f := 37) rfl ?_); refine goesL_ (some 18) rfl rfl Try.func37 zk rfl #[.pointer (some ⟨g, 0, none⟩), .slice Ao25 y114.length co25] rfl zA ?_; (with_reducible refine (spec_l01Pick.calls g s0_0 t103 t104 _ _ y114 t117 t118 t119 w0 _ ?side1 ?side2 ?side3 ?side4 ?side5 A11.out).mono ?_); (case side1 => exact zI); (case side2 => exact zB); (case side3 => exact zC (Kd.R_reads' HO116.out).2.2); (case side4 => exact (Kd.R_reads' HO116.out).2.1); (case side5 => exact far_slice (IsS65.own_ne HI0.out HO116.out (by decide))); rintro e w26 ⟨rfl, hi, hb, hk⟩; refine ⟨_, rfl, ?_⟩; have n_ := y7 (KeepBut.blk hk (g' := gb101) (o := .cells #[.slice none 0 0] 26 (0, 0)) (zG BK101.out) NB101_0.out (by simp)) (Kd.R_mono (Kd.R_keep (IsS65.apart (show IsS65 w0 _ g s0_0 t103 t104 from zI) (zR HO112.out) (by decide)) hk (fun _ h => h.2)) (fun _ h => h.1)) (KeepBut.blk hk (g' := gb113) (o := .cells #[.slice Ao18 y110.length co18] 26 (0, 0)) (zG BK113.out) NB113_0.out (by simp)) (Kd.R_mono (Kd.R_keep (IsS65.apart (show IsS65 w0 _ g s0_0 t103 t104 from zI) (zR HO116.out) (by decide)) hk (fun _ h => h.2)) (fun _ h => h.1)) (KeepBut.trans (zK) hk (.inl rfl)) (hb) (hi); clear BK101 HO112 BK113 HO116 HK HB HI0; obtain ⟨BK101, HO112, BK113, HO116, HK, HB, HI0⟩ := n_; (try clear hb); (try clear hb2); (try clear hk); (try clear hi)) | ((with_reducible refine gate_dst (N := 20) rfl ?_); refine Kd.R_lit (Kd.int .i64) _ 2 ?hg (N := 20) ?hd (xs := ([2, 2, 3] : List Int)) (inner := [.int .i64 2, .int .i64 2, .int .i64 3]) (ok := fun _ => True) (okp := fun _ => True) ?hr ?hp (fun _ hk => hk) trivial (Below.refl _ _) (Nat.le_refl _) (by simp) ?_; (case hd => rfl); (case hg => rfl); (case hr => first | (go_simp; done) | (go_simp; rfl)); (case hp => exact (Reps.one (show Kd.M (Kd.int .i64) _ _ _ 2 [.int .i64 2] from rfl) (Reps.one (show Kd.M (Kd.int .i64) _ _ _ 2 [.int .i64 2] from rfl) (Reps.one (show Kd.M (Kd.int .i64) _ _ _ 3 [.int .i64 3] from rfl) (Reps.none _ _))))); intro v121 w27 ho28 hb hg_ hnew_; clear hg_ hnew_; (first | rw [← Ny120.out] at ho28 | (simp only [Int.reduceToNat] at ho28; rw [← Ny120.out] at ho28)); have n_ := y8 (Kd.R_elder' (zR HO112.out) (Kd.R_base ho28) hb) (Kd.R_elder' (zR HO116.out) (Kd.R_base ho28) hb) (Kd.R_lower (Kd.R_new' (Kd.R_new' ho28 (Kd.R_lt (zR HO112.out))) (Kd.R_lt (zR HO116.out))) (keep_size (w := w) (g := g) (row := none) (zK))) (IsS65.below (zI) hb) (zb BK101.out hb) (zb BK113.out hb) (KeepBut.trans (zK) (KeepBut.of_below hb g none) (.inl rfl)) (below_step (zB) hb); clear HO112 HO116 HI0 BK101 BK113 HK HB; obtain ⟨HO112, HO116, HO122, HI0, BK101, BK113, HK, HB⟩ := n_; clear hb ho28; obtain ⟨Ao29, co29, eo29⟩ := Kd.R_slice HO122.out; subst eo29) | ((with_reducible refine gate_callee (f := 37) rfl ?_); refine goesL_ (some 21) rfl rfl Try.func37 zk rfl #[.pointer (some ⟨g, 0, none⟩), .slice Ao29 y120.length co29] rfl zA ?_; (with_reducible refine (spec_l01Pick.calls g s0_0 t118 t119 _ _ y120 t123 t124 t125 w0 _ ?side1 ?side2 ?side3 ?side4 ?side5 A12.out).mono ?_); (case side1 => exact zI); (case side2 => exact zB); (case side3 => exact zC (Kd.R_reads' HO122.out).2.2); (case side4 => exact (Kd.R_reads' HO122.out).2.1); (case side5 => exact far_slice (IsS65.own_ne HI0.out HO122.out (by decide))); rintro e w30 ⟨rfl, hi, hb, hk⟩; refine ⟨_, rfl, ?_⟩; have n_ := y8 (KeepBut.blk hk (g' := gb101) (o := .cells #[.slice none 0 0] 26 (0, 0)) (zG BK101.out) NB101_0.out (by simp)) (Kd.R_mono (Kd.R_keep (IsS65.apart (show IsS65 w0 _ g s0_0 t118 t119 from zI) (zR HO112.out) (by decide)) hk (fun _ h => h.2)) (fun _ h => h.1)) (KeepBut.blk hk (g' := gb113) (o := .cells #[.slice Ao18 y110.length co18] 26 (0, 0)) (zG BK113.out) NB113_0.out (by simp)) (Kd.R_mono (Kd.R_keep (IsS65.apart (show IsS65 w0 _ g s0_0 t118 t119 from zI) (zR HO116.out) (by decide)) hk (fun _ h => h.2)) (fun _ h => h.1)) (Kd.R_mono (Kd.R_keep (IsS65.apart (show IsS65 w0 _ g s0_0 t118 t119 from zI) (zR HO122.out) (by decide)) hk (fun _ h => h.2)) (fun _ h => h.1)) (KeepBut.trans (zK) hk (.inl rfl)) (hb) (hi); clear BK101 HO112 BK113 HO116 HO122 HK HB HI0; obtain ⟨BK101, HO112, BK113, HO116, HO122, HK, HB, HI0⟩ := n_; (try clear hb); (try clear hb2); (try clear hk); (try clear hi)) | ((with_reducible refine gate_callee (f := 45) rfl ?_); refine goesL_ (some 23) rfl rfl Try.func45 zk rfl #[.pointer (some ⟨g, 0, none⟩), .int .i64 8] rfl zA ?_; (with_reducible refine (spec_l01Next.calls g s0_0 t124 t125 8 t126 t127 t128 w0 _ ?side1 ?side2 A13.out).mono ?_); (case side1 => exact zI); (case side2 => exact zB); rintro e w31 ⟨rfl, hi, hb, hk⟩; refine ⟨_, rfl, ?_⟩; have n_ := y8 (KeepBut.blk hk (g' := gb101) (o := .cells #[.slice none 0 0] 26 (0, 0)) (zG BK101.out) NB101_0.out (by simp)) (Kd.R_mono (Kd.R_keep (IsS65.apart (show IsS65 w0 _ g s0_0 t124 t125 from zI) (zR HO112.out) (by decide)) hk (fun _ h => h.2)) (fun _ h => h.1)) (KeepBut.blk hk (g' := gb113) (o := .cells #[.slice Ao18 y110.length co18] 26 (0, 0)) (zG BK113.out) NB113_0.out (by simp)) (Kd.R_mono (Kd.R_keep (IsS65.apart (show IsS65 w0 _ g s0_0 t124 t125 from zI) (zR HO116.out) (by decide)) hk (fun _ h => h.2)) (fun _ h => h.1)) (Kd.R_mono (Kd.R_keep (IsS65.apart (show IsS65 w0 _ g s0_0 t124 t125 from zI) (zR HO122.out) (by decide)) hk (fun _ h => h.2)) (fun _ h => h.1)) (KeepBut.trans (zK) hk (.inl rfl)) (hb) (hi); clear BK101 HO112 BK113 HO116 HO122 HK HB HI0; obtain ⟨BK101, HO112, BK113, HO116, HO122, HK, HB, HI0⟩ := n_; (try clear hb); (try clear hb2); (try clear hk); (try clear hi)))
 go_loopg [6] k (fun kq v6 w' => ∃ (x6_1 : Int) (x1001_1 : Int) (x1002_1 : Int) (x114000_1 : List Int) (u114000 : Value), v6 = .int .i64 x6_1 ∧ Aside0 (spec_l03Draw.l0 kq t117 t123 x6_1 s0_0 x1001_1 x1002_1 x114000_1 = some (r1, r2, r3)) ∧ Aside0 (kq ≤ k) ∧ Aside0 (Kd.R (Kd.int .i64) 2 w' w.heap.size (fun _ => True) u114000 x114000_1) ∧ Aside0 (w'.heap[gb101]? = some (.cells #[(.slice none 0 0)] 26 (0, 0))) ∧ Aside0 (w'.heap[gb113]? = some (.cells #[u114000] 26 (0, 0))) ∧ Aside0 (IsS65 w0 w' g s0_0 x1001_1 x1002_1) ∧ Aside0 (KeepBut w w' g none) ∧ Aside0 (Below w0.heap.size w0 w'))
 case atStart => exact ⟨(wrap64 (1 + t126)), (t127), (t128), (y110), (.slice Ao18 y110.length co18), zF, H', ⟨Nat.le_refl _⟩, ⟨by refine zR ?_; exact Kd.R_mono HO112.out (fun _ hk => trivial)⟩, ⟨zG BK101.out⟩, ⟨zG BK113.out⟩, ⟨zI⟩, ⟨zK⟩, ⟨zB⟩⟩
 clear H'
 try clear c3
 try clear c3b0
 try clear c3b1
 try clear hcz22_0
 try clear hfz22_0
 obtain ⟨x6_1, x1001_1, x1002_1, x114000_1, u114000, rfl, HA, HK1, HO_114000, BK101, BK113, HI0, HK, HB⟩ := hrel
 cases gk with
 | zero => exact absurd HA.out (by simp [spec_l03Draw.l0])
 | succ k1 =>
   have H := HA.out
   clear HA
   simp only [spec_l03Draw.l0] at H
   by_cases c32 : x6_1 > 0
   · rw [if_pos c32] at H
     have c32b0 : decide (0 < x6_1) = true := decide_eq_true c32
     clear c32
     replace H := Option.bind_eq_some_iff.mp H
     obtain ⟨⟨t129, t130, t131⟩, A330, H⟩ := H
     replace H : (spec_l03Draw.l1 k1 t117 t123 x6_1 t117 t129 s0_0 t130 t131 x114000_1) = some (r1, r2, r3) := H
     have A33 := Aside0.mk A330
     clear A330
     have H' := Aside0.mk H
     clear H
     go_wp2_with (first | ((with_reducible refine gate_callee (f := 45) rfl ?_); refine goesL_ (some 31) rfl rfl Try.func45 zk rfl #[.pointer (some ⟨g, 0, none⟩), .int .i64 6] rfl zA ?_; (with_reducible refine (spec_l01Next.calls g s0_0 x1001_1 x1002_1 6 t129 t130 t131 w0 _ ?side1 ?side2 A33.out).mono ?_); (case side1 => exact zI); (case side2 => exact zB); rintro e w34 ⟨rfl, hi, hb, hk⟩; refine ⟨_, rfl, ?_⟩; have n_ := y6 (Kd.R_mono (Kd.R_keep (IsS65.apart (show IsS65 w0 _ g s0_0 x1001_1 x1002_1 from zI) (zR HO_114000.out) (by decide)) hk (fun _ h => h.2)) (fun _ h => h.1)) (KeepBut.blk hk (g' := gb101) (o := .cells #[.slice none 0 0] 26 (0, 0)) (zG BK101.out) NB101_0.out (by simp)) (KeepBut.blk hk (g' := gb113) (o := .cells #[u114000] 26 (0, 0)) (zG BK113.out) NB113_0.out (by simp)) (KeepBut.trans (zK) hk (.inl rfl)) (hb) (hi); clear HO_114000 BK101 BK113 HK HB HI0; obtain ⟨HO_114000, BK101, BK113, HK, HB, HI0⟩ := n_; (try clear hb); (try clear hb2); (try clear hk); (try clear hi)))
     go_loopg [7, 8] k1 (fun kq v7 v8 w' => ∃ (x7_2 : Int) (x8_2 : Int), v7 = .int .i64 x7_2 ∧ v8 = .int .i64 x8_2 ∧ Aside0 (spec_l03Draw.l1 kq t117 t123 x6_1 x7_2 x8_2 s0_0 t130 t131 x114000_1 = some (r1, r2, r3)) ∧ Aside0 (kq ≤ k1) ∧ Aside0 (Kd.R (Kd.int .i64) 2 w' w.heap.size (fun _ => True) u114000 x114000_1) ∧ Aside0 (w'.heap[gb101]? = some (.cells #[(.slice none 0 0)] 26 (0, 0))) ∧ Aside0 (w'.heap[gb113]? = some (.cells #[u114000] 26 (0, 0))) ∧ Aside0 (IsS65 w0 w' g s0_0 t130 t131) ∧ Aside0 (KeepBut w w' g none) ∧ Aside0 (Below w0.heap.size w0 w'))
     case atStart => exact ⟨(t117), (t129), zF, zF, H', ⟨Nat.le_refl _⟩, ⟨zR HO_114000.out⟩, ⟨zG BK101.out⟩, ⟨zG BK113.out⟩, ⟨zI⟩, ⟨zK⟩, ⟨zB⟩⟩
     case round =>
       clear H'
       try clear c3
       try clear c3b0
       try clear c3b1
       try clear c32
       try clear c32b0
       try clear hcz22_0
       try clear hfz22_0
       obtain ⟨x7_2, x8_2, rfl, rfl, HA, HK2, HO_114000, BK101, BK113, HI0, HK, HB⟩ := hrel
       cases gk with
       | zero => exact absurd HA.out (by simp [spec_l03Draw.l1])
       | succ k2 =>
         have H := HA.out
         clear HA
         simp only [spec_l03Draw.l1] at H
         by_cases c35 : x8_2 > 0
         · rw [if_pos c35] at H
           have c35b0 : decide (0 < x8_2) = true := decide_eq_true c35
           clear c35
           by_cases c36 : (wrap64 (x7_2 * t123)) ≤ 40
           · rw [if_pos c36] at H
             have c36b0 : decide ((wrap64 (x7_2 * t123)) ≤ 40) = true := decide_eq_true c36
             clear c36
             have H' := Aside0.mk H
             clear H
             go_wp2
             go_roundg k2
             case measure => have := HK1.out; have := HK2.out; omega
             case rel => exact ⟨(wrap64 (x7_2 * t123)), (wrap64 (x8_2 - 1)), zF, zF, H', ⟨by have := HK1.out; have := HK2.out; omega⟩, ⟨zR HO_114000.out⟩, ⟨zG BK101.out⟩, ⟨zG BK113.out⟩, ⟨zI⟩, ⟨zK⟩, ⟨zB⟩⟩
           · rw [if_neg c36] at H
             have c36b0 : decide ((wrap64 (x7_2 * t123)) ≤ 40) = false := decide_eq_false c36
             clear c36
             by_cases c37 : x114000_1.length < 17592186044416
             · rw [if_pos c37] at H
               have LMc37 := Aside0.mk c37
               clear c37
               obtain ⟨y132, hy132⟩ : ∃ y_ : List Int, y_ = (x114000_1 ++ [x7_2]) := ⟨_, rfl⟩
               replace H : (spec_l03Draw.l0 k2 t117 t123 (wrap64 (x6_1 - 1)) s0_0 t130 t131 y132) = some (r1, r2, r3) := zH hy132
               have Ny132 := Aside0.mk hy132
               clear hy132
               have H' := Aside0.mk H
               clear H
               have hnb38 := NB113_101.out
               have hnc38 := NB101_113.out
               have hnb39 := NB113_0.out
               have hnc39 := NB0_113.out
               have hcz40_0 := zc BK113.out
               have hfz40_0 := blk_frozen BK113.out 0
               go_wp2_with (first | ((with_reducible refine gate_builtin (b := .append) (xs := #[.tmp 46, .tmp 48]) rfl ?_); at_builtin; refine Kd.R_append (Kd.int .i64) w.heap.size rfl (.tmp 46) (.tmp 48) 24 2 (.int .i64 0) 8 rfl Try.underlying24 info2 rfl (by decide) (by omega) u114000 x114000_1 x7_2 [.int .i64 x7_2] (fun _ => True) (fun _ => False) rfl rfl ?aP (fun _ hk => hk.elim) ?aF ?aO (Below.refl _ _) ?aS ?aL ?_; (case aP => exact rfl); (case aF => exact (fun _ _ => trivial)); (case aO => exact (zR HO_114000.out)); (case aS => exact (keep_size (w := w) (g := g) (row := none) (zK))); (case aL => have := LMc37.out; omega); intro v133 w41 ho hb hg hat; rw [← Ny132.out] at ho; have n_ := y6 (blk_grown (g := gb101) (o := .cells #[.slice none 0 0] 26 (0, 0)) (zG BK101.out) hg (Kd.R_ne HO_114000.out BK101.out (by decide))) (blk_grown (g := gb113) (o := .cells #[u114000] 26 (0, 0)) (zG BK113.out) hg (Kd.R_ne HO_114000.out BK113.out (by decide))) (IsS65.grown (zI) hg (IsS65.own_ne HI0.out HO_114000.out (by decide))) (below_weaken (zB) HL.out hb) (KeepBut.trans (zK) (KeepBut.of_grown hg g) (Kd.R_base2 HO_114000.out)) (ho); clear BK101 BK113 HI0 HB HK HO_114000; obtain ⟨BK101, BK113, HI0, HB, HK, HO134⟩ := n_; clear ho hb hg hat; obtain ⟨Ao42, co42, eo42⟩ := Kd.R_slice HO134.out; subst eo42; have hcz43_0 := zc BK113.out; have hfz43_0 := blk_frozen BK113.out 0))
               go_roundg k2
               case measure => have := HK1.out; have := HK2.out; omega
               case rel => exact ⟨(wrap64 (x6_1 - 1)), (t130), (t131), (y132), (.slice Ao42 y132.length co42), zF, H', ⟨by have := HK1.out; have := HK2.out; omega⟩, ⟨by refine zR ?_; exact Kd.R_mono (Kd.R_far (p := ⟨gb113, 0, none⟩) (Kd.R_types HO134.out BK113.out (by decide)) (fun _ hk => hk.2) (.slice Ao42 y132.length co42)) (fun _ hk => trivial)⟩, ⟨by refine zG ?_; refine blk_far ?_ NB101_113.out _; refine zG ?_; exact BK101.out⟩, ⟨by refine zG ?_; refine blk_put (cs := #[u114000]) ?_ 0 _ rfl; refine zG ?_; exact BK113.out⟩, ⟨zI⟩, ⟨zK⟩, ⟨zB⟩⟩
             · rw [if_neg c37] at H
               exact absurd H (by simp)
         · rw [if_neg c35] at H
           have c35b0 : decide (0 < x8_2) = false := decide_eq_false c35
           clear c35
           by_cases c44 : x114000_1.length < 17592186044416
           · rw [if_pos c44] at H
             have LMc44 := Aside0.mk c44
             clear c44
             obtain ⟨y135, hy135⟩ : ∃ y_ : List Int, y_ = (x114000_1 ++ [x7_2]) := ⟨_, rfl⟩
             replace H : (spec_l03Draw.l0 k2 t117 t123 (wrap64 (x6_1 - 1)) s0_0 t130 t131 y135) = some (r1, r2, r3) := zH hy135
             have Ny135 := Aside0.mk hy135
             clear hy135
             have H' := Aside0.mk H
             clear H
             have hnb45 := NB113_101.out
             have hnc45 := NB101_113.out
             have hnb46 := NB113_0.out
             have hnc46 := NB0_113.out
             have hcz47_0 := zc BK113.out
             have hfz47_0 := blk_frozen BK113.out 0
             go_wp2_with (first | ((with_reducible refine gate_builtin (b := .append) (xs := #[.tmp 46, .tmp 48]) rfl ?_); at_builtin; refine Kd.R_append (Kd.int .i64) w.heap.size rfl (.tmp 46) (.tmp 48) 24 2 (.int .i64 0) 8 rfl Try.underlying24 info2 rfl (by decide) (by omega) u114000 x114000_1 x7_2 [.int .i64 x7_2] (fun _ => True) (fun _ => False) rfl rfl ?aP (fun _ hk => hk.elim) ?aF ?aO (Below.refl _ _) ?aS ?aL ?_; (case aP => exact rfl); (case aF => exact (fun _ _ => trivial)); (case aO => exact (zR HO_114000.out)); (case aS => exact (keep_size (w := w) (g := g) (row := none) (zK))); (case aL => have := LMc44.out; omega); intro v136 w48 ho hb hg hat; rw [← Ny135.out] at ho; have n_ := y6 (blk_grown (g := gb101) (o := .cells #[.slice none 0 0] 26 (0, 0)) (zG BK101.out) hg (Kd.R_ne HO_114000.out BK101.out (by decide))) (blk_grown (g := gb113) (o := .cells #[u114000] 26 (0, 0)) (zG BK113.out) hg (Kd.R_ne HO_114000.out BK113.out (by decide))) (IsS65.grown (zI) hg (IsS65.own_ne HI0.out HO_114000.out (by decide))) (below_weaken (zB) HL.out hb) (KeepBut.trans (zK) (KeepBut.of_grown hg g) (Kd.R_base2 HO_114000.out)) (ho); clear BK101 BK113 HI0 HB HK HO_114000; obtain ⟨BK101, BK113, HI0, HB, HK, HO137⟩ := n_; clear ho hb hg hat; obtain ⟨Ao49, co49, eo49⟩ := Kd.R_slice HO137.out; subst eo49; have hcz50_0 := zc BK113.out; have hfz50_0 := blk_frozen BK113.out 0))
             go_roundg k2
             case measure => have := HK1.out; have := HK2.out; omega
             case rel => exact ⟨(wrap64 (x6_1 - 1)), (t130), (t131), (y135), (.slice Ao49 y135.length co49), zF, H', ⟨by have := HK1.out; have := HK2.out; omega⟩, ⟨by refine zR ?_; exact Kd.R_mono (Kd.R_far (p := ⟨gb113, 0, none⟩) (Kd.R_types HO137.out BK113.out (by decide)) (fun _ hk => hk.2) (.slice Ao49 y135.length co49)) (fun _ hk => trivial)⟩, ⟨by refine zG ?_; refine blk_far ?_ NB101_113.out _; refine zG ?_; exact BK101.out⟩, ⟨by refine zG ?_; refine blk_put (cs := #[u114000]) ?_ 0 _ rfl; refine zG ?_; exact BK113.out⟩, ⟨zI⟩, ⟨zK⟩, ⟨zB⟩⟩
           · rw [if_neg c44] at H
             exact absurd H (by simp)
   · rw [if_neg c32] at H
     have c32b0 : decide (0 < x6_1) = false := decide_eq_false c32
     clear c32
     simp only [Option.some.injEq, Prod.mk.injEq] at H
     obtain ⟨rfl, rfl, rfl⟩ := H
     have hnb51 := NB113_101.out
     have hnc51 := NB101_113.out
     have hnb52 := NB113_0.out
     have hnc52 := NB0_113.out
     have hcz53_0 := zc BK113.out
     have hfz53_0 := blk_frozen BK113.out 0
     obtain ⟨Ao54, co54, eo54⟩ := Kd.R_slice HO_114000.out
     subst eo54
     have hnb55 := NB101_0.out
     have hnc55 := NB0_101.out
     have hcz56_0 := zc BK101.out
     have hfz56_0 := blk_frozen BK101.out 0
     go_wp2
     refine bodyPost_ret (results_cell_row rfl _ _ gb101 26 #[.slice Ao54 x114000_1.length co54] (0, 0) _ rfl (by refine zG ?_; refine blk_put (cs := #[.slice none 0 0]) ?_ 0 _ rfl; refine zG ?_; exact BK101.out) Try.underlying26 rfl zk) rfl ?_
     exact ⟨_, zE, by refine zR ?_; exact Kd.R_mono (Kd.R_far (p := ⟨gb101, 0, none⟩) (Kd.R_types HO_114000.out BK101.out (by decide)) (fun _ hk => hk.2) (.slice Ao54 x114000_1.length co54)) (fun _ hk => trivial), zI, zB, zK⟩
end Go.Proofs.Ytgbapmmfhdphmaa.P
end
section
namespace Go.Proofs.Ytgbapmmfhdphmaa.P
open Go.RowKit Go.Proofs.YtgbapmmfhdphmaaW.PrintWords Go.Proofs.YtgbapmmfhdphmaaW.PrintLast Go.Proofs.YtgbapmmfhdphmaaW.PrintMore
attribute [local go_sem] max2_int min2_int max_two min_two max_three min_three max_four min_four   -- for this text's walks alone
set_option linter.unusedVariables false
set_option linter.unusedSimpArgs false
def spec_DrawHarmonicTurns.f (k : Nat) (l0 : List Int) : Option (List Int) := (spec_l01From.f k l0).bind fun bt102 => ((spec_l03Draw.f k bt102.1 bt102.2.1 bt102.2.2).bind fun bt106 => ((spec_l01Bad.f k bt102.1 bt106.2.1 bt106.2.2 bt106.1).bind fun bt111 => (some bt111.1)))
theorem spec_DrawHarmonicTurns.mono : ∀ a0 k, LeO (spec_DrawHarmonicTurns.f k a0) (spec_DrawHarmonicTurns.f (k + 1) a0) := by
  intro a0 k
  unfold spec_DrawHarmonicTurns.f
  repeat' first | (with_reducible exact spec_l01Bad.mono _ _ _ _ _) | (with_reducible exact spec_l01From.mono _ _) | (with_reducible exact spec_l03Draw.mono _ _ _ _) | (with_reducible exact LeO.refl _) | (with_reducible exact LeO.none _) | (with_reducible refine LeO.ite ?_ ?_) | (with_reducible refine LeO.bind ?_ (fun _ => ?_)) | exact spec_l01Bad.mono _ _ _ _ _ | exact spec_l01From.mono _ _ | exact spec_l03Draw.mono _ _ _ _ | exact LeO.none _ | refine LeO.ite ?_ ?_ | refine LeO.bind ?_ (fun _ => ?_)
set_option maxHeartbeats 8000000 in
set_option maxRecDepth 100000 in
theorem spec_DrawHarmonicTurns.calls (k : Nat) (A0 : Option Addr) (c0 : Nat) (l0 : List Int) (r : List Int) (w : World) (hr0 : Kd.C (Kd.int .u8) w A0 l0.length l0) (hc0 : l0.length ≤ c0) (h : spec_DrawHarmonicTurns.f k l0 = some r) :
    Calls Try.prog 5 #[.slice A0 l0.length c0] w fun e w' => ∃ v0_ : Value, e = .returned (.agg #[v0_]) ∧ Kd.R (Kd.int .i64) 2 w' w.heap.size (fun _ => True) v0_ r ∧ Below w.heap.size w w' := by
 have hu26 := Try.underlying26
 have HR0 := Aside0.mk hr0
 have HC0 := Aside0.mk hc0
 clear hr0 hc0
 have HB := Aside0.mk (Below.refl w.heap.size w)
 have H : ((spec_l01From.f k l0).bind fun bt102 => ((spec_l03Draw.f k bt102.1 bt102.2.1 bt102.2.2).bind fun bt106 => ((spec_l01Bad.f k bt102.1 bt106.2.1 bt106.2.2 bt106.1).bind fun bt111 => (some bt111.1)))) = some r := h
 clear h
 replace H := Option.bind_eq_some_iff.mp H
 obtain ⟨⟨t102, t103, t104⟩, A20, H⟩ := H
 replace H : ((spec_l03Draw.f k t102 t103 t104).bind fun bt106 => ((spec_l01Bad.f k t102 bt106.2.1 bt106.2.2 bt106.1).bind fun bt111 => (some bt111.1))) = some r := H
 have A2 := Aside0.mk A20
 clear A20
 replace H := Option.bind_eq_some_iff.mp H
 obtain ⟨⟨t106, t109, t110⟩, A30, H⟩ := H
 replace H : ((spec_l01Bad.f k t102 t109 t110 t106).bind fun bt111 => (some bt111.1)) = some r := H
 have A3 := Aside0.mk A30
 clear A30
 replace H := Option.bind_eq_some_iff.mp H
 obtain ⟨⟨t111, t114, t115⟩, A40, H⟩ := H
 replace H : (some t111) = some r := H
 have A4 := Aside0.mk A40
 clear A40
 obtain rfl := Option.some.inj H
 go_enter Try.func5, Try.ntmps5
 go_wp2_with (first | ((with_reducible refine gate_dst (N := 2) rfl ?_); refine box_event zr (N := 2) zr (cs := #[.slice none 0 0]) (t := 26) zg ?_; intro gb101 hg w5 hbox hb; have n_ := y4 (below_step (zB) hb) (hbox) ((zS hg : w.heap.size ≤ gb101)) ((zS hg : w.heap.size ≤ gb101)); clear HB; obtain ⟨HB, BK101, GW101, GE101⟩ := n_; clear hb hbox hg) | ((with_reducible refine gate_callee (f := 22) rfl ?_); refine goesL_ (some 5) rfl rfl Try.func22 zk rfl #[.slice A0 l0.length c0] rfl zA ?_; (with_reducible refine (spec_l01From.calls k _ _ l0 t102 t103 t104 w _ ?side1 ?side2 ?side3 A2.out).mono ?_); (case side1 => exact zB); (case side2 => exact HR0.out); (case side3 => exact HC0.out); rintro e w6 ⟨g105, rfl, hi, hb, hb2⟩; refine ⟨_, rfl, ?_⟩; have n_ := y5 (zb BK101.out hb2) (hb) (hi) (IsS65.ne_blk hi (zb BK101.out hb2) (by decide)) (Ne.symm (IsS65.ne_blk hi (zb BK101.out hb2) (by decide))); clear BK101 HB; obtain ⟨BK101, HB, HI105, NB105_101, NB101_105⟩ := n_; (try clear hb); (try clear hb2); (try clear hk); (try clear hi)) | ((with_reducible refine gate_callee (f := 24) rfl ?_); refine goesL_ (some 8) rfl rfl Try.func24 zk rfl #[.pointer (some ⟨g105, 0, none⟩)] rfl zA ?_; (with_reducible refine (spec_l03Draw.calls k g105 t102 t103 t104 t106 t109 t110 w _ ?side1 ?side2 A3.out).mono ?_); (case side1 => exact zI5); (case side2 => exact zB); rintro e w7 ⟨v107, rfl, ho0, hi, hb, hk⟩; refine ⟨_, rfl, ?_⟩; have n_ := y4 (KeepBut.blk hk (g' := gb101) (o := .cells #[.slice none 0 0] 26 (0, 0)) (zG BK101.out) NB101_105.out (by simp)) (Kd.R_lower ho0 (below_size (zB))) (hb) (hi); clear BK101 HB HI105; obtain ⟨BK101, HO108, HB, HI105⟩ := n_; (try clear hb); (try clear hb2); (try clear hk); (try clear hi); (try clear ho0); obtain ⟨Ao8, co8, eo8⟩ := Kd.R_slice HO108.out; subst eo8) | ((with_reducible refine gate_callee (f := 23) rfl ?_); refine goesL_ (some 9) rfl rfl Try.func23 zk rfl #[.pointer (some ⟨g105, 0, none⟩), .agg #[.slice Ao8 t106.length co8]] rfl zA ?_; (with_reducible refine (spec_l01Bad.calls k g105 t102 t109 t110 (fun k_ => some k_ = (.slice Ao8 t106.length co8 : Value).ownBlock) (.slice Ao8 t106.length co8) t106 t111 t114 t115 w _ ?side1 ?side2 ?side3 A4.out).mono ?_); (case side1 => exact zI5); (case side2 => exact zB); (case side3 => exact Kd.R_tight rfl HO108.out); rintro e w9 ⟨v112, rfl, ho0, hi, hb, hkp⟩; refine ⟨_, rfl, ?_⟩; have n_ := y4 (blk_kept (zG BK101.out) hkp (fun hs_ => Or.elim hs_ (fun hs_ => (fun e_ => (Kd.R_ne HO108.out BK101.out (by decide)) e_) hs_) (fun e_ => NB101_105.out e_))) (hi) (Kd.R_mono (ok' := fun k_ => True) ho0 (fun k_ hk_ => trivial)) (hb); clear BK101 HI105 HB HO108; obtain ⟨BK101, HI105, HO113, HB⟩ := n_; (try clear hb); (try clear hkp); (try clear ho0); obtain ⟨Ao10, co10, eo10⟩ := Kd.R_slice HO113.out; subst eo10; have hnb11 := NB101_105.out; have hnc11 := NB105_101.out; have hcz12_0 := zc BK101.out; have hfz12_0 := blk_frozen BK101.out 0))
 refine bodyPost_ret (results_cell_row rfl _ _ gb101 26 #[.slice Ao10 t111.length co10] (0, 0) _ rfl (by refine zG ?_; refine blk_put (cs := #[.slice none 0 0]) ?_ 0 _ rfl; refine zG ?_; exact BK101.out) Try.underlying26 rfl zk) rfl ?_
 exact ⟨_, zE, by refine zR ?_; exact Kd.R_mono (Kd.R_far (p := ⟨gb101, 0, none⟩) (Kd.R_types HO113.out BK101.out (by decide)) (fun _ hk => hk.2) (.slice Ao10 t111.length co10)) (fun _ hk => trivial), zB⟩
end Go.Proofs.Ytgbapmmfhdphmaa.P
end
section
namespace Go.Proofs.Ytgbapmmfhdphmaa.P
open Go.RowKit Go.Proofs.YtgbapmmfhdphmaaW.PrintWords Go.Proofs.YtgbapmmfhdphmaaW.PrintLast Go.Proofs.YtgbapmmfhdphmaaW.PrintMore
attribute [local go_sem] max2_int min2_int max_two min_two max_three min_three max_four min_four   -- for this text's walks alone
set_option linter.unusedVariables false
set_option linter.unusedSimpArgs false
def idxF {α : Type} (p : α → Bool) (l : List α) : Int := if l.any p then (l.findIdx p : Int) else -1
def idxL (p : Int → Bool) (l : List Int) : Nat → Int → Option Int
  | 0, _ => none
  | k + 1, i => if i < (l.length : Int) then (if p (rd l i) = true then some i else idxL p l k (wrap64 (i + 1))) else some (-1)
theorem idxL_at (p : Int → Bool) (l : List Int) (hl : l.length ≤ 9223372036854775807) : ∀ (d n : Nat), n + d = l.length → (∀ x ∈ l.take n, p x = false) → idxL p l (d + 1) (n : Int) = some (idxF p l) := by
  intro d
  induction d with
  | zero =>
    intro n hn hp
    have hno : l.any p = false := by
      rw [List.take_of_length_le (by omega)] at hp
      simpa using hp
    simp only [idxL]
    rw [if_neg (by omega), idxF, if_neg (by simp [hno])]
  | succ d ih =>
    intro n hn hp
    have hlt : n < l.length := by omega
    have hrd : rd l (n : Int) = l[n] := by simp [rd, hlt]
    have htake : l.take (n + 1) = l.take n ++ [l[n]] := by rw [List.take_succ_eq_append_getElem hlt]
    rw [idxL, if_pos (by omega), hrd]
    by_cases h : p l[n] = true
    · rw [if_pos h, idxF, if_pos (by simp only [List.any_eq_true]; exact ⟨l[n], List.getElem_mem _, h⟩)]
      congr 2
      symm
      rw [List.findIdx_eq hlt]
      refine ⟨h, fun j hj => ?_⟩
      exact hp _ (List.mem_take_iff_getElem.2 ⟨j, by omega, rfl⟩)
    · rw [if_neg h, show wrap64 ((n : Int) + 1) = ((n + 1 : Nat) : Int) by unfold wrap64; omega]
      refine ih (n + 1) (by omega) ?_
      rw [htake]
      intro x hx
      rcases List.mem_append.1 hx with hx | hx
      · exact hp x hx
      · rw [List.mem_singleton.1 hx]
        simpa using h
theorem idxF_nonneg {α : Type} (p : α → Bool) (l : List α) : decide (0 ≤ idxF p l) = l.any p := by
  unfold idxF
  by_cases h : l.any p = true
  · rw [if_pos h, h]; simp
  · rw [if_neg h]
    simp only [Bool.not_eq_true] at h
    rw [h]; simp
theorem all_not_any {α : Type} (p : α → Bool) (l : List α) : l.all p = !(l.any fun x => !p x) := by
  induction l with
  | nil => rfl
  | cons x l ih => rw [List.all_cons, List.any_cons, Bool.not_or, Bool.not_not, ih]
theorem rd_mem {l : List Int} {i : Int} (h0 : 0 ≤ i) (h : i < (l.length : Int)) : rd l i ∈ l := by
  have hlt : i.toNat < l.length := by omega
  simp [rd, hlt]
end Go.Proofs.Ytgbapmmfhdphmaa.P
end
section
namespace Go.Proofs.Ytgbapmmfhdphmaa.P
open Go.RowKit Go.Proofs.YtgbapmmfhdphmaaW.PrintWords Go.Proofs.YtgbapmmfhdphmaaW.PrintLast Go.Proofs.YtgbapmmfhdphmaaW.PrintMore
attribute [local go_sem] max2_int min2_int max_two min_two max_three min_three max_four min_four   -- for this text's walks alone
set_option linter.unusedVariables false
set_option linter.unusedSimpArgs false
set_option maxHeartbeats 4000000 in
set_option maxRecDepth 100000 in
theorem fv_IndexFunc (g : Nat) (lb : Array Value) (eg : ∀ args w, (callFunc g args).run Try.prog w = .ok (.enter g args) w) (p : Int → Bool) (A0 : Option Addr) (c0 : Nat) (l0 : List Int) (w : World)
    (hr0 : Kd.C (Kd.int .i64) w A0 l0.length l0) (hc0 : l0.length ≤ c0)
    (hp : ∀ (W : World) (x : Int), Below w.heap.size w W → x ∈ l0 → Calls Try.prog g (#[.int .i64 x] ++ lb) W fun e w' => e = .returned (.bool (p x)) ∧ Below W.heap.size W w') :
    Calls Try.prog 75 #[.slice A0 l0.length c0, .func (.func g) #[] lb] w fun e w' => e = .returned (.int .i64 (idxF p l0)) ∧ Below w.heap.size w w' := by
  have H : idxL p l0 (l0.length + 1) 0 = some (idxF p l0) := idxL_at p l0 hr0.2.1 l0.length 0 (by omega) (by simp)
  generalize idxF p l0 = r at H ⊢
  have HR0 := Aside0.mk hr0
  have HC0 := Aside0.mk hc0
  have HP := Aside0.mk hp
  clear hr0 hc0 hp
  have H' := Aside0.mk H
  clear H
  have HB := Aside0.mk (Below.refl w.heap.size w)
  go_enter Try.func75, Try.ntmps75
  go_wp2
  go_loopg [5, 8] (l0.length + 1) (fun kq v5 v8 w' => ∃ x8 : Int, v8 = .int .i64 x8 ∧ Aside0 (idxL p l0 kq x8 = some r) ∧ Aside0 (0 ≤ x8) ∧ Aside0 (Below w.heap.size w w'))
  case atStart => exact ⟨0, rfl, H', ⟨by omega⟩, HB⟩
  case round =>
    clear H' HB
    obtain ⟨x8, rfl, HA, H0, HB⟩ := hrel
    cases gk with
    | zero => exact absurd HA.out (by simp [idxL])
    | succ k1 =>
      have H := HA.out
      clear HA
      simp only [idxL] at H
      by_cases c3 : x8 < (l0.length : Int)
      · rw [if_pos c3] at H
        obtain ⟨ad, e1, hx⟩ := Kd.at_int HR0.out x8 H0.out c3
        cases e1
        have hcell := pw_cell_below HB.out hx
        clear hx
        have hcall := HP.out _ (rd l0 x8) HB.out (rd_mem H0.out c3)
        have c3b := decide_eq_true c3
        have c0b := eq_true H0.out
        have c3c := eq_true c3
        have HM : Aside0 (x8 < 9223372036854775807) := ⟨by have := HR0.out.2.1; omega⟩
        clear c3
        generalize rd l0 x8 = y at H hcell hcall
        cases hq : p y with
        | true =>
          rw [hq, if_pos rfl] at H
          rw [hq] at hcall
          obtain rfl := Option.some.inj H
          clear H hq
          have HQ := Aside0.mk hcall
          clear hcall
          go_wp2_with (go_at_fn g; refine HQ.out.mono ?_; rintro e w' ⟨rfl, hb1⟩)
          go_ret
          exact ⟨rfl, below_step HB.out hb1⟩
        | false =>
          rw [hq, if_neg (by simp)] at H
          rw [hq] at hcall
          have H' := Aside0.mk H
          clear H hq
          have HQ := Aside0.mk hcall
          clear hcall
          go_wp2_with (go_at_fn g; refine HQ.out.mono ?_; rintro e w' ⟨rfl, hb1⟩)
          go_roundg k1
          case measure => omega
          case rel => exact ⟨(wrap64 (x8 + 1)), zF, H', ⟨by have h1 := HM.out; have h2 := H0.out; unfold wrap64; omega⟩, ⟨below_step HB.out hb1⟩⟩
      · rw [if_neg c3] at H
        obtain rfl := Option.some.inj H
        have c3b := decide_eq_false c3
        clear c3 H
        go_wp2
        go_ret
        exact ⟨rfl, HB.out⟩
set_option maxHeartbeats 4000000 in
theorem fv_ContainsFunc (g : Nat) (lb : Array Value) (eg : ∀ args w, (callFunc g args).run Try.prog w = .ok (.enter g args) w) (p : Int → Bool) (A0 : Option Addr) (c0 : Nat) (l0 : List Int) (w : World)
    (hr0 : Kd.C (Kd.int .i64) w A0 l0.length l0) (hc0 : l0.length ≤ c0)
    (hp : ∀ (W : World) (x : Int), Below w.heap.size w W → x ∈ l0 → Calls Try.prog g (#[.int .i64 x] ++ lb) W fun e w' => e = .returned (.bool (p x)) ∧ Below W.heap.size W w') :
    Calls Try.prog 67 #[.slice A0 l0.length c0, .func (.func g) #[] lb] w fun e w' => e = .returned (.bool (l0.any p)) ∧ Below w.heap.size w w' := by
  rw [← idxF_nonneg p l0]
  have HQ := Aside0.mk (fv_IndexFunc g lb eg p A0 c0 l0 w hr0 hc0 hp)
  clear hr0 hc0 hp
  go_enter Try.func67, Try.ntmps67
  go_wp2_with (go_at_call 75; refine HQ.out.mono ?_; rintro e w' ⟨rfl, hb1⟩)
  go_ret
  exact ⟨rfl, hb1⟩
set_option maxHeartbeats 4000000 in
theorem fv_areAll_1 (g : Nat) (lb : Array Value) (eg : ∀ args w, (callFunc g args).run Try.prog w = .ok (.enter g args) w) (p : Int → Bool) (B : Nat) (x : Int) (W : World)
    (hc : W.cell? ⟨B, 0, none⟩ = some (.func (.func g) #[] lb))
    (hp : Calls Try.prog g (#[.int .i64 x] ++ lb) W fun e w' => e = .returned (.bool (p x)) ∧ Below W.heap.size W w') :
    Calls Try.prog 68 #[.int .i64 x, .pointer (some ⟨B, 0, none⟩)] W fun e w' => e = .returned (.bool (!p x)) ∧ Below W.heap.size W w' := by
  have HQ := Aside0.mk hp
  clear hp
  generalize p x = b at HQ ⊢
  go_enter Try.func68, Try.ntmps68
  go_wp2_with (go_at_fn g; refine HQ.out.mono ?_; rintro e w' ⟨rfl, hb1⟩)
  go_ret
  exact ⟨rfl, hb1⟩
set_option maxHeartbeats 4000000 in
theorem fv_areAll (g : Nat) (lb : Array Value) (eg : ∀ args w, (callFunc g args).run Try.prog w = .ok (.enter g args) w) (p : Int → Bool) (A0 : Option Addr) (c0 : Nat) (l0 : List Int) (w : World)
    (hr0 : Kd.C (Kd.int .i64) w A0 l0.length l0) (hc0 : l0.length ≤ c0)
    (hp : ∀ (W : World) (x : Int), Below w.heap.size w W → x ∈ l0 → Calls Try.prog g (#[.int .i64 x] ++ lb) W fun e w' => e = .returned (.bool (p x)) ∧ Below W.heap.size W w') :
    Calls Try.prog 49 #[.slice A0 l0.length c0, .func (.func g) #[] lb] w fun e w' => e = .returned (.bool (l0.all p)) ∧ Below w.heap.size w w' := by
  rw [all_not_any p l0]
  have e1 : ∀ args w, (callFunc 68 args).run Try.prog w = .ok (.enter 68 args) w := enters_of Try.func68 zk rfl
  have hB : Below w.heap.size w (w.alloc (.cells #[.func (.func g) #[] lb] 69)) := below_alloc (Below.refl _ _) _
  have HQ := Aside0.mk (fv_ContainsFunc 68 #[.pointer (some ⟨w.heap.size, 0, none⟩)] e1 (fun x => !p x) A0 c0 l0 (w.alloc (.cells #[.func (.func g) #[] lb] 69)) (Kd.C_below hr0 hB) hc0
    (fun W x hb hx => fv_areAll_1 g lb eg p w.heap.size x W ((hb.cell (p := ⟨w.heap.size, 0, none⟩) (by simp)).trans (by simp)) (hp W x (below_step hB hb) hx)))
  have HB := Aside0.mk hB
  clear hr0 hc0 hp hB
  generalize (l0.any fun x => !p x) = b at HQ ⊢
  go_enter Try.func49, Try.ntmps49
  go_wp2_with (go_at_call 67; refine HQ.out.mono ?_; rintro e w' ⟨rfl, hb1⟩)
  go_ret
  exact ⟨rfl, below_step HB.out hb1⟩
end Go.Proofs.Ytgbapmmfhdphmaa.P
end
section
namespace Go.Proofs.Ytgbapmmfhdphmaa.P
open Go.RowKit Go.Proofs.YtgbapmmfhdphmaaW.PrintWords Go.Proofs.YtgbapmmfhdphmaaW.PrintLast Go.Proofs.YtgbapmmfhdphmaaW.PrintMore
attribute [local go_sem] max2_int min2_int max_two min_two max_three min_three max_four min_four   -- for this text's walks alone
set_option linter.unusedVariables false
set_option linter.unusedSimpArgs false
def harm1 (a b : Int) : Bool := Int.tmod (mx a b) (mn a b) == 0
def impl_Tasks_isHarmonic.f (l0_0 : List Int) : Option Bool := if (∀ x ∈ l0_0, 1 ≤ x) then some (l0_0.all fun a => l0_0.all fun b => harm1 a b) else none
set_option maxHeartbeats 4000000 in
set_option maxRecDepth 100000 in
theorem fv_isHarmonic_2 (a b : Int) (ha : 1 ≤ a) (hb : 1 ≤ b) (B : Nat) (W : World) (hc : W.cell? ⟨B, 0, none⟩ = some (.int .i64 a)) :
    Calls Try.prog 51 (#[.int .i64 b] ++ #[.pointer (some ⟨B, 0, none⟩)]) W fun e w' => e = .returned (.bool (harm1 a b)) ∧ Below W.heap.size W w' := by
  show Calls Try.prog 51 #[.int .i64 b, .pointer (some ⟨B, 0, none⟩)] W _
  have e0 : harm1 a b = (Int.tmod (if a < b then b else a) (if b < a then b else a) == 0) := by
    unfold harm1 mx mn
    rfl
  rw [e0]
  by_cases c : a < b
  · rw [if_pos c, if_neg (show ¬ b < a by omega)]
    have z1 : (a == 0) = false := beq_eq_false_iff_ne.mpr (by omega)
    have z0 : (a = 0) = False := eq_false (by omega)
    have d1 : (a < b) = True := eq_true c
    have d2 : (b < a) = False := eq_false (by omega)
    clear ha hb c e0
    go_enter Try.func51, Try.ntmps51
    go_wp2
    go_ret
    exact ⟨rfl, Below.refl _ _⟩
  · have d1 : (a < b) = False := eq_false c
    rw [if_neg c]
    by_cases c2 : b < a
    · rw [if_pos c2]
      have z1 : (b == 0) = false := beq_eq_false_iff_ne.mpr (by omega)
      have z0 : (b = 0) = False := eq_false (by omega)
      have d2 : (b < a) = True := eq_true c2
      clear ha hb c c2 e0
      go_enter Try.func51, Try.ntmps51
      go_wp2
      go_ret
      exact ⟨rfl, Below.refl _ _⟩
    · rw [if_neg c2]
      have z1 : (a == 0) = false := beq_eq_false_iff_ne.mpr (by omega)
      have z0 : (a = 0) = False := eq_false (by omega)
      have d2 : (b < a) = False := eq_false c2
      clear ha hb c c2 e0
      go_enter Try.func51, Try.ntmps51
      go_wp2
      go_ret
      exact ⟨by first | rfl | simp [Int.tmod_self], Below.refl _ _⟩
set_option maxHeartbeats 4000000 in
set_option maxRecDepth 100000 in
theorem fv_isHarmonic_1 (a : Int) (l0 : List Int) (A0 : Option Addr) (c0 : Nat) (hl : ∀ x ∈ l0, 1 ≤ x) (ha : 1 ≤ a) (B : Nat) (W : World) (hr0 : Kd.C (Kd.int .i64) W A0 l0.length l0) (hc0 : l0.length ≤ c0) (hc : W.cell? ⟨B, 0, none⟩ = some (.slice A0 l0.length c0)) :
    Calls Try.prog 50 (#[.int .i64 a] ++ #[.pointer (some ⟨B, 0, none⟩)]) W fun e w' => e = .returned (.bool (l0.all fun b => harm1 a b)) ∧ Below W.heap.size W w' := by
  show Calls Try.prog 50 #[.int .i64 a, .pointer (some ⟨B, 0, none⟩)] W _
  have e1 : ∀ args w, (callFunc 51 args).run Try.prog w = .ok (.enter 51 args) w := enters_of Try.func51 zk rfl
  have hB := below_alloc (Below.refl W.heap.size W) (.cells #[.int .i64 a] 2)
  have HQ := Aside0.mk (fv_areAll 51 #[.pointer (some ⟨W.heap.size, 0, none⟩)] e1 (fun b => harm1 a b) A0 c0 l0 (W.alloc (.cells #[.int .i64 a] 2)) (Kd.C_below hr0 hB) hc0
    (fun W' x hb hx => fv_isHarmonic_2 a x ha (hl x hx) W.heap.size W' (by have h := blk_cell (blk_below (blk_new W (.cells #[.int .i64 a] 2)) hb) 0; simpa using h)))
  have HB := Aside0.mk hB
  have hu46 := Try.underlying26
  have hq := pw_cell_below hB hc
  clear hr0 hc0 hB hl ha e1
  generalize (l0.all fun b => harm1 a b) = r at HQ ⊢
  go_enter Try.func50, Try.ntmps50
  go_wp2_with (go_at_call 49; refine HQ.out.mono ?_; rintro e w' ⟨rfl, hb1⟩)
  go_ret
  exact ⟨rfl, below_step HB.out hb1⟩
set_option maxHeartbeats 4000000 in
set_option maxRecDepth 100000 in
theorem impl_Tasks_isHarmonic.calls (A0_0 : Option Addr) (c0_0 : Nat) (l0_0 : List Int) (r : Bool) (w : World) (hr0_0 : Kd.C (Kd.int .i64) w A0_0 l0_0.length l0_0) (hc0_0 : l0_0.length ≤ c0_0) (h : impl_Tasks_isHarmonic.f l0_0 = some r) :
    Calls Try.prog 26 #[.agg #[.slice A0_0 l0_0.length c0_0]] w fun e w' => e = .returned (.bool r) ∧ Below w.heap.size w w' := by
  unfold impl_Tasks_isHarmonic.f at h
  by_cases hl : ∀ x ∈ l0_0, 1 ≤ x
  · rw [if_pos hl] at h
    obtain rfl := Option.some.inj h
    have e1 : ∀ args w, (callFunc 50 args).run Try.prog w = .ok (.enter 50 args) w := enters_of Try.func50 zk rfl
    have hB := below_alloc (Below.refl w.heap.size w) (.cells #[.slice A0_0 l0_0.length c0_0] 26)
    have HQ := Aside0.mk (fv_areAll 50 #[.pointer (some ⟨w.heap.size, 0, none⟩)] e1 (fun a => l0_0.all fun b => harm1 a b) A0_0 c0_0 l0_0 (w.alloc (.cells #[.slice A0_0 l0_0.length c0_0] 26)) (Kd.C_below hr0_0 hB) hc0_0
      (fun W' x hb hx => fv_isHarmonic_1 x l0_0 A0_0 c0_0 hl (hl x hx) w.heap.size W' (Kd.C_below (Kd.C_below hr0_0 hB) hb) hc0_0 (by have h := blk_cell (blk_below (blk_new w (.cells #[.slice A0_0 l0_0.length c0_0] 26)) hb) 0; simpa using h)))
    have HB := Aside0.mk hB
    have hu46 := Try.underlying26
    clear hr0_0 hc0_0 h hB hl e1
    generalize (l0_0.all fun a => l0_0.all fun b => harm1 a b) = r at HQ ⊢
    go_enter Try.func26, Try.ntmps26
    go_wp2_with (go_at_call 49; refine HQ.out.mono ?_; rintro e w' ⟨rfl, hb1⟩)
    go_ret
    exact ⟨rfl, below_step HB.out hb1⟩
  · rw [if_neg hl] at h
    exact absurd h (by simp)
end Go.Proofs.Ytgbapmmfhdphmaa.P
end
section
namespace Go.Proofs.Ytgbapmmfhdphmaa.P
open Go.RowKit Go.Proofs.YtgbapmmfhdphmaaW.PrintWords Go.Proofs.YtgbapmmfhdphmaaW.PrintLast Go.Proofs.YtgbapmmfhdphmaaW.PrintMore
attribute [local go_sem] max2_int min2_int max_two min_two max_three min_three max_four min_four   -- for this text's walks alone
set_option linter.unusedVariables false
set_option linter.unusedSimpArgs false
def impl_within.f (a0 : Int) (a1 : Int) (a2 : Int) : Option (Bool) := if a1 ≤ a0 then (some (decide (a0 ≤ a2))) else (some false)
set_option maxHeartbeats 8000000 in
set_option maxRecDepth 100000 in
theorem impl_within.calls (a0 : Int) (a1 : Int) (a2 : Int) (r : Bool) (w : World) (h : impl_within.f a0 a1 a2 = some r) :
    Calls Try.prog 38 #[.int .i64 a0, .int .i64 a1, .int .i64 a2] w fun e w' => e = .returned (.bool r) ∧ Drawn0 w w' := by
 have H : (if a1 ≤ a0 then (some (decide (a0 ≤ a2))) else (some false)) = some r := h
 clear h
 by_cases c4 : a1 ≤ a0
 ·
  rw [if_pos c4] at H
  have c4b0 : decide (a1 ≤ a0) = true := decide_eq_true c4
  clear c4
  obtain rfl := Option.some.inj H
  go_enter Try.func38, Try.ntmps38
  go_wp2
  go_ret
  exact ⟨by first | rfl | (simp; done) | (simp [*]; done), by repeat (first | exact Drawn0.refl _ | apply Drawn0.step)⟩
 rw [if_neg c4] at H
 have c4b0 : decide (a1 ≤ a0) = false := decide_eq_false c4
 clear c4
 obtain rfl := Option.some.inj H
 go_enter Try.func38, Try.ntmps38
 go_wp2
 go_ret
 exact ⟨by first | rfl | (simp; done) | (simp [*]; done), by repeat (first | exact Drawn0.refl _ | apply Drawn0.step)⟩
end Go.Proofs.Ytgbapmmfhdphmaa.P
end
section
namespace Go.Proofs.Ytgbapmmfhdphmaa.P
open Go.RowKit Go.Proofs.YtgbapmmfhdphmaaW.PrintWords Go.Proofs.YtgbapmmfhdphmaaW.PrintLast Go.Proofs.YtgbapmmfhdphmaaW.PrintMore
attribute [local go_sem] max2_int min2_int max_two min_two max_three min_three max_four min_four   -- for this text's walks alone
set_option linter.unusedVariables false
set_option linter.unusedSimpArgs false
theorem within_f (n lo hi : Int) : impl_within.f n lo hi = some (decide (lo ≤ n ∧ n ≤ hi)) := by
  unfold impl_within.f
  by_cases h : lo ≤ n
  · rw [if_pos h]; simp [h]
  · rw [if_neg h]; simp [h]
theorem within_yes {n lo hi : Int} (h : lo ≤ n ∧ n ≤ hi) : impl_within.f n lo hi = some true := by rw [within_f, decide_eq_true h]
theorem within_not {n lo hi : Int} (h : ¬ (lo ≤ n ∧ n ≤ hi)) : impl_within.f n lo hi = some false := by rw [within_f, decide_eq_false h]
end Go.Proofs.Ytgbapmmfhdphmaa.P
end
section
namespace Go.Proofs.Ytgbapmmfhdphmaa.P
open Go.RowKit Go.Proofs.YtgbapmmfhdphmaaW.PrintWords Go.Proofs.YtgbapmmfhdphmaaW.PrintLast Go.Proofs.YtgbapmmfhdphmaaW.PrintMore
attribute [local go_sem] max2_int min2_int max_two min_two max_three min_three max_four min_four   -- for this text's walks alone
set_option linter.unusedVariables false
set_option linter.unusedSimpArgs false
def impl_length_int64.f (l0 : List Int) : Option (Int) := some (l0.length : Int)
set_option maxHeartbeats 8000000 in
set_option maxRecDepth 100000 in
theorem impl_length_int64.calls (A0 : Option Addr) (c0 : Nat) (l0 : List Int) (r : Int) (w : World) (hr0 : Kd.C (Kd.int .i64) w A0 l0.length l0) (hc0 : l0.length ≤ c0) (h : impl_length_int64.f l0 = some r) :
    Calls Try.prog 65 #[.slice A0 l0.length c0] w fun e w' => e = .returned (.int .i64 r) ∧ Drawn0 w w' := by
 have HR0 := Aside0.mk hr0
 have HC0 := Aside0.mk hc0
 clear hr0 hc0
 have H : (some (l0.length : Int)) = some r := h
 clear h
 obtain rfl := Option.some.inj H
 go_enter Try.func65, Try.ntmps65
 go_wp2
 go_ret
 exact ⟨by first | rfl | (simp; done) | (simp [*]; done), by repeat (first | exact Drawn0.refl _ | apply Drawn0.step)⟩
end Go.Proofs.Ytgbapmmfhdphmaa.P
end
section
namespace Go.Proofs.Ytgbapmmfhdphmaa.P
open Go.RowKit Go.Proofs.YtgbapmmfhdphmaaW.PrintWords Go.Proofs.YtgbapmmfhdphmaaW.PrintLast Go.Proofs.YtgbapmmfhdphmaaW.PrintMore
attribute [local go_sem] max2_int min2_int max_two min_two max_three min_three max_four min_four   -- for this text's walks alone
set_option linter.unusedVariables false
set_option linter.unusedSimpArgs false
def impl_IsTasks.f (l0_0 : List Int) : Option Bool := some (decide (1 ≤ (l0_0.length : Int) ∧ (l0_0.length : Int) ≤ 8) && l0_0.all fun g => decide (1 ≤ g ∧ g ≤ 40))
theorem fv_IsTasks_1 (x : Int) (W : World) :
    Calls Try.prog 66 (#[.int .i64 x] ++ #[]) W fun e w' => e = .returned (.bool (decide (1 ≤ x ∧ x ≤ 40))) ∧ Below W.heap.size W w' := by
  have HQ := Aside0.mk (impl_within.calls x 1 40 _ W (within_f x 1 40))
  generalize decide (1 ≤ x ∧ x ≤ 40) = b at HQ ⊢
  show Calls Try.prog 66 #[.int .i64 x] W _
  go_enter Try.func66, Try.ntmps66
  go_wp2_with (go_at_call 38; refine HQ.out.mono ?_; rintro e w' ⟨rfl, hb1⟩)
  go_ret
  exact ⟨rfl, hb1.below⟩
set_option maxHeartbeats 4000000 in
set_option maxRecDepth 100000 in
theorem impl_IsTasks.calls (A0_0 : Option Addr) (c0_0 : Nat) (l0_0 : List Int) (r : Bool) (w : World) (hr0_0 : Kd.C (Kd.int .i64) w A0_0 l0_0.length l0_0) (hc0_0 : l0_0.length ≤ c0_0) (h : impl_IsTasks.f l0_0 = some r) :
    Calls Try.prog 48 #[.agg #[.slice A0_0 l0_0.length c0_0]] w fun e w' => e = .returned (.bool r) ∧ Below w.heap.size w w' := by
  have hu := Try.underlying26
  obtain rfl := Option.some.inj h
  clear h
  have e1 : ∀ args w, (callFunc 66 args).run Try.prog w = .ok (.enter 66 args) w := enters_of Try.func66 zk rfl
  have HQ := Aside0.mk (fun (W : World) (hb : Below w.heap.size w W) => fv_areAll 66 #[] e1 (fun g => decide (1 ≤ g ∧ g ≤ 40)) A0_0 c0_0 l0_0 W (Kd.C_below hr0_0 hb) hc0_0 (fun W' x _ _ => fv_IsTasks_1 x W'))
  have HL := Aside0.mk (fun (W : World) (hb : Below w.heap.size w W) => impl_length_int64.calls A0_0 c0_0 l0_0 _ W (Kd.C_below hr0_0 hb) hc0_0 rfl)
  have HR := Aside0.mk hr0_0
  clear hr0_0 hc0_0 e1
  have HB := Aside0.mk (Below.refl w.heap.size w)
  generalize l0_0.all (fun g => decide (1 ≤ g ∧ g ≤ 40)) = b at HQ ⊢
  by_cases h1 : 1 ≤ (l0_0.length : Int) ∧ (l0_0.length : Int) ≤ 8
  · have HW := Aside0.mk (fun W => impl_within.calls (l0_0.length : Int) 1 8 _ W (within_yes h1))
    rw [decide_eq_true h1, Bool.true_and]
    clear h1
    go_enter Try.func48, Try.ntmps48
    go_wp2_with (first
      | (go_at_call 65; refine (HL.out _ (by repeat (first | exact HB.out | apply below_alloc | apply pw_below_drewN | apply below_drew1))).mono ?_; rintro e w' ⟨rfl, ⟨n1, rfl⟩⟩)
      | (go_at_call 38; refine (HW.out _).mono ?_; rintro e w' ⟨rfl, ⟨n2, rfl⟩⟩)
      | (go_at_call 49; refine (HQ.out _ (by repeat (first | exact HB.out | apply below_alloc | apply pw_below_drewN | apply below_drew1))).mono ?_; rintro e w' ⟨rfl, hb1⟩))
    go_ret
    exact ⟨rfl, below_step (by repeat (first | exact HB.out | apply below_alloc | apply pw_below_drewN | apply below_drew1)) hb1⟩
  · have HW := Aside0.mk (fun W => impl_within.calls (l0_0.length : Int) 1 8 _ W (within_not h1))
    rw [decide_eq_false h1, Bool.false_and]
    clear h1
    go_enter Try.func48, Try.ntmps48
    go_wp2_with (first
      | (go_at_call 65; refine (HL.out _ (by repeat (first | exact HB.out | apply below_alloc | apply pw_below_drewN | apply below_drew1))).mono ?_; rintro e w' ⟨rfl, ⟨n1, rfl⟩⟩)
      | (go_at_call 38; refine (HW.out _).mono ?_; rintro e w' ⟨rfl, ⟨n2, rfl⟩⟩))
    go_ret
    exact ⟨rfl, by repeat (first | exact HB.out | apply below_alloc | apply pw_below_drewN | apply below_drew1)⟩
end Go.Proofs.Ytgbapmmfhdphmaa.P
end
section
namespace Go.Proofs.Ytgbapmmfhdphmaa.P
open Go.RowKit Go.Proofs.YtgbapmmfhdphmaaW.PrintWords Go.Proofs.YtgbapmmfhdphmaaW.PrintLast Go.Proofs.YtgbapmmfhdphmaaW.PrintMore
attribute [local go_sem] max2_int min2_int max_two min_two max_three min_three max_four min_four   -- for this text's walks alone
set_option linter.unusedVariables false
set_option linter.unusedSimpArgs false
def impl_tasksCode.f (l0_0 : List Int) (a1 : Bool) : Option (Int) := (impl_IsTasks.f l0_0).bind fun t102 => (if t102 = true then (if a1 = true then (some 0) else (some 2)) else (some 1))
set_option maxHeartbeats 8000000 in
set_option maxRecDepth 100000 in
theorem impl_tasksCode.calls (A0_0 : Option Addr) (c0_0 : Nat) (l0_0 : List Int) (a1 : Bool) (r : Int) (w : World) (hr0_0 : Kd.C (Kd.int .i64) w A0_0 l0_0.length l0_0) (hc0_0 : l0_0.length ≤ c0_0) (h : impl_tasksCode.f l0_0 a1 = some r) :
    Calls Try.prog 25 #[.agg #[.slice A0_0 l0_0.length c0_0], .bool a1] w fun e w' => e = .returned (.int .i64 r) ∧ Below w.heap.size w w' := by
 have hu26 := Try.underlying26
 have HR0_0 := Aside0.mk hr0_0
 have HC0_0 := Aside0.mk hc0_0
 clear hr0_0 hc0_0
 have HB := Aside0.mk (Below.refl w.heap.size w)
 have H : ((impl_IsTasks.f l0_0).bind fun t102 => (if t102 = true then (if a1 = true then (some 0) else (some 2)) else (some 1))) = some r := h
 clear h
 replace H := Option.bind_eq_some_iff.mp H
 obtain ⟨t102, A30, H⟩ := H
 replace H : (if t102 = true then (if a1 = true then (some 0) else (some 2)) else (some 1)) = some r := H
 have A3 := Aside0.mk A30
 clear A30
 by_cases c4 : t102 = true
 ·
  subst c4
  have H1 : (if a1 = true then (some 0) else (some 2)) = some r := by rw [if_pos rfl] at H; exact H
  clear H
  have H := H1
  clear H1
  by_cases c5 : a1 = true
  ·
   subst c5
   have H1 : (some 0) = some r := by rw [if_pos rfl] at H; exact H
   clear H
   have H := H1
   clear H1
   obtain rfl := Option.some.inj H
   go_enter Try.func25, Try.ntmps25
   go_wp2_with (first | ((with_reducible refine gate_dst (N := 2) rfl ?_); refine box_event zr (N := 2) zr (cs := #[.slice A0_0 l0_0.length c0_0]) (t := 26) zg ?_; intro gb101 hg w6 hbox hb; have n_ := y4 (below_step (zB) hb) (hbox) ((zS hg : w.heap.size ≤ gb101)) ((zS hg : w.heap.size ≤ gb101)); clear HB; obtain ⟨HB, BK101, GW101, GE101⟩ := n_; clear hb hbox hg; have hcz7_0 := zc BK101.out; have hfz7_0 := blk_frozen BK101.out 0) | ((with_reducible refine gate_callee (f := 48) rfl ?_); refine goesL_ (some 7) rfl rfl Try.func48 zk rfl #[.agg #[.slice A0_0 l0_0.length c0_0]] rfl zA ?_; (with_reducible refine (impl_IsTasks.calls _ _ l0_0 true _ ?side1 ?side2 A3.out).mono ?_); (case side1 => exact zC (Kd.C_below HR0_0.out HB.out)); (case side2 => exact HC0_0.out); rintro e w8 ⟨rfl, hb⟩; refine ⟨_, rfl, ?_⟩; have n_ := y2 (zb BK101.out hb) (below_step (zB) hb); clear BK101 HB; obtain ⟨BK101, HB⟩ := n_; (try clear hb); (try clear hb2); (try clear hk); (try clear hi)))
   go_ret
   exact ⟨zE, zB⟩
  replace c5 := Bool.eq_false_iff.mpr c5
  subst c5
  have H1 : (some 2) = some r := by rw [if_neg (show ¬ (false = true) by decide)] at H; exact H
  clear H
  have H := H1
  clear H1
  obtain rfl := Option.some.inj H
  go_enter Try.func25, Try.ntmps25
  go_wp2_with (first | ((with_reducible refine gate_dst (N := 2) rfl ?_); refine box_event zr (N := 2) zr (cs := #[.slice A0_0 l0_0.length c0_0]) (t := 26) zg ?_; intro gb101 hg w9 hbox hb; have n_ := y4 (below_step (zB) hb) (hbox) ((zS hg : w.heap.size ≤ gb101)) ((zS hg : w.heap.size ≤ gb101)); clear HB; obtain ⟨HB, BK101, GW101, GE101⟩ := n_; clear hb hbox hg; have hcz10_0 := zc BK101.out; have hfz10_0 := blk_frozen BK101.out 0) | ((with_reducible refine gate_callee (f := 48) rfl ?_); refine goesL_ (some 7) rfl rfl Try.func48 zk rfl #[.agg #[.slice A0_0 l0_0.length c0_0]] rfl zA ?_; (with_reducible refine (impl_IsTasks.calls _ _ l0_0 true _ ?side1 ?side2 A3.out).mono ?_); (case side1 => exact zC (Kd.C_below HR0_0.out HB.out)); (case side2 => exact HC0_0.out); rintro e w11 ⟨rfl, hb⟩; refine ⟨_, rfl, ?_⟩; have n_ := y2 (zb BK101.out hb) (below_step (zB) hb); clear BK101 HB; obtain ⟨BK101, HB⟩ := n_; (try clear hb); (try clear hb2); (try clear hk); (try clear hi)))
  go_ret
  exact ⟨zE, zB⟩
 replace c4 := Bool.eq_false_iff.mpr c4
 subst c4
 have H1 : (some 1) = some r := by rw [if_neg (show ¬ (false = true) by decide)] at H; exact H
 clear H
 have H := H1
 clear H1
 obtain rfl := Option.some.inj H
 go_enter Try.func25, Try.ntmps25
 go_wp2_with (first | ((with_reducible refine gate_dst (N := 2) rfl ?_); refine box_event zr (N := 2) zr (cs := #[.slice A0_0 l0_0.length c0_0]) (t := 26) zg ?_; intro gb101 hg w12 hbox hb; have n_ := y4 (below_step (zB) hb) (hbox) ((zS hg : w.heap.size ≤ gb101)) ((zS hg : w.heap.size ≤ gb101)); clear HB; obtain ⟨HB, BK101, GW101, GE101⟩ := n_; clear hb hbox hg; have hcz13_0 := zc BK101.out; have hfz13_0 := blk_frozen BK101.out 0) | ((with_reducible refine gate_callee (f := 48) rfl ?_); refine goesL_ (some 7) rfl rfl Try.func48 zk rfl #[.agg #[.slice A0_0 l0_0.length c0_0]] rfl zA ?_; (with_reducible refine (impl_IsTasks.calls _ _ l0_0 false _ ?side1 ?side2 A3.out).mono ?_); (case side1 => exact zC (Kd.C_below HR0_0.out HB.out)); (case side2 => exact HC0_0.out); rintro e w14 ⟨rfl, hb⟩; refine ⟨_, rfl, ?_⟩; have n_ := y2 (zb BK101.out hb) (below_step (zB) hb); clear BK101 HB; obtain ⟨BK101, HB⟩ := n_; (try clear hb); (try clear hb2); (try clear hk); (try clear hi)))
 go_ret
 exact ⟨zE, zB⟩
end Go.Proofs.Ytgbapmmfhdphmaa.P
end
section
namespace Go.Proofs.Ytgbapmmfhdphmaa.P
open Go.RowKit Go.Proofs.YtgbapmmfhdphmaaW.PrintWords Go.Proofs.YtgbapmmfhdphmaaW.PrintLast Go.Proofs.YtgbapmmfhdphmaaW.PrintMore
attribute [local go_sem] max2_int min2_int max_two min_two max_three min_three max_four min_four   -- for this text's walks alone
set_option linter.unusedVariables false
set_option linter.unusedSimpArgs false
def impl_divisor.l0 : Nat → Int → Int → Option (Int)
  | 0, _, _ => none
  | k + 1, x0, x1 => if x1 = 0 then (some x0) else (impl_divisor.l0 k x1 (Int.tmod x0 x1))
def impl_divisor.f (k : Nat) (a0 : Int) (a1 : Int) : Option (Int) := impl_divisor.l0 k a0 a1
theorem impl_divisor.mono_l : ∀ k, (∀ y0 y1, LeO (impl_divisor.l0 k y0 y1) (impl_divisor.l0 (k + 1) y0 y1))
  | 0 => fun _ _ r h => by simp [impl_divisor.l0] at h
  | k + 1 => by
    have ih0 := impl_divisor.mono_l k
    · intro y0 y1
      unfold impl_divisor.l0
      repeat' first | (with_reducible exact ih0 _ _) | (with_reducible exact LeO.refl _) | (with_reducible exact LeO.none _) | (with_reducible refine LeO.ite ?_ ?_) | (with_reducible refine LeO.bind ?_ (fun _ => ?_)) | exact ih0 _ _ | exact LeO.none _ | refine LeO.ite ?_ ?_ | refine LeO.bind ?_ (fun _ => ?_)
theorem impl_divisor.mono : ∀ a0 a1 k, LeO (impl_divisor.f k a0 a1) (impl_divisor.f (k + 1) a0 a1) := by
  intro a0 a1 k
  have ih0 := impl_divisor.mono_l k
  unfold impl_divisor.f
  repeat' first | (with_reducible exact ih0 _ _) | (with_reducible exact LeO.refl _) | (with_reducible exact LeO.none _) | (with_reducible refine LeO.ite ?_ ?_) | (with_reducible refine LeO.bind ?_ (fun _ => ?_)) | exact ih0 _ _ | exact LeO.none _ | refine LeO.ite ?_ ?_ | refine LeO.bind ?_ (fun _ => ?_)
set_option maxHeartbeats 8000000 in
set_option maxRecDepth 100000 in
theorem impl_divisor.calls (k : Nat) (a0 : Int) (a1 : Int) (r : Int) (w : World) (h : impl_divisor.f k a0 a1 = some r) :
    Calls Try.prog 58 #[.int .i64 a0, .int .i64 a1] w fun e w' => e = .returned (.int .i64 r) ∧ Drawn0 w w' := by
 have H : (impl_divisor.l0 k a0 a1) = some r := h
 clear h
 have H' := Aside0.mk H
 clear H
 go_enter Try.func58, Try.ntmps58
 go_wp2
 repeat (go_quiet (fail); try go_wp2)
 go_loopg [0, 1] k (fun kq v0 v1 w' => ∃ (x0_1 : Int) (x1_1 : Int), v0 = .int .i64 x0_1 ∧ v1 = .int .i64 x1_1 ∧ Aside0 (impl_divisor.l0 kq x0_1 x1_1 = some r) ∧ Aside0 (kq ≤ k) ∧ Drawn0 w w')
 case atStart => exact ⟨(a0), (a1), zF, zF, H', ⟨Nat.le_refl _⟩, by repeat (first | exact Drawn0.refl _ | apply Drawn0.step)⟩
 clear H'
 obtain ⟨x0_1, x1_1, rfl, rfl, HA, HK1, ⟨m1, rfl⟩⟩ := hrel
 cases gk with
 | zero => exact absurd HA.out (by simp [impl_divisor.l0])
 | succ k1 =>
   have H := HA.out
   clear HA
   simp only [impl_divisor.l0] at H
   by_cases c3 : x1_1 = 0
   · rw [if_pos c3] at H
     have c3b0 : (x1_1 == 0) = true := beq_iff_eq.mpr c3
     have c3b1 : (x1_1 != 0) = false := bne_eq_false_iff_eq.mpr c3
     clear c3
     obtain rfl := Option.some.inj H
     go_wp2
     repeat (go_quiet (fail); try go_wp2)
     go_ret
     exact ⟨by first | rfl | (simp; done) | (simp [*]; done), by repeat (first | exact Drawn0.refl _ | apply Drawn0.step)⟩
   · rw [if_neg c3] at H
     have c3b0 : (x1_1 == 0) = false := beq_eq_false_iff_ne.mpr c3
     have c3b1 : (x1_1 != 0) = true := bne_iff_ne.mpr c3
     have H' := Aside0.mk H
     clear H
     go_wp2
     repeat (go_quiet (fail); try go_wp2)
     go_roundg k1
     case measure => have := HK1.out; omega
     case rel => exact ⟨(x1_1), (Int.tmod x0_1 x1_1), zF, zF, H', ⟨by have := HK1.out; omega⟩, by repeat (first | exact Drawn0.refl _ | apply Drawn0.step)⟩
end Go.Proofs.Ytgbapmmfhdphmaa.P
end
section
namespace Go.Proofs.Ytgbapmmfhdphmaa.P
open Go.RowKit Go.Proofs.YtgbapmmfhdphmaaW.PrintWords Go.Proofs.YtgbapmmfhdphmaaW.PrintLast Go.Proofs.YtgbapmmfhdphmaaW.PrintMore
attribute [local go_sem] max2_int min2_int max_two min_two max_three min_three max_four min_four   -- for this text's walks alone
set_option linter.unusedVariables false
set_option linter.unusedSimpArgs false
def impl_Tasks_multiple.l0 : Nat → Int → List Int → Int → Int → Option (Int)
  | 0, _, _, _, _ => none
  | k + 1, x3, x7, x8, x9 => if x9 < x8 then (if 0 ≤ x9 then (if x9 < (x7.length : Int) then ((impl_divisor.f k x3 (rd x7 x9)).bind fun t103 => (if t103 = 0 then (none) else (impl_Tasks_multiple.l0 k (wrap64 ((wrap64 (Int.tdiv x3 t103)) * (rd x7 x9))) x7 x8 (wrap64 (x9 + 1))))) else (none)) else (none)) else (some x3)
def impl_Tasks_multiple.f (k : Nat) (l0_0 : List Int) : Option (Int) := impl_Tasks_multiple.l0 k 1 l0_0 (l0_0.length : Int) 0
theorem impl_Tasks_multiple.mono_l : ∀ k, (∀ y0 y1 y2 y3, LeO (impl_Tasks_multiple.l0 k y0 y1 y2 y3) (impl_Tasks_multiple.l0 (k + 1) y0 y1 y2 y3))
  | 0 => fun _ _ _ _ r h => by simp [impl_Tasks_multiple.l0] at h
  | k + 1 => by
    have ih0 := impl_Tasks_multiple.mono_l k
    · intro y0 y1 y2 y3
      unfold impl_Tasks_multiple.l0
      repeat' first | (with_reducible exact ih0 _ _ _ _) | (with_reducible exact impl_divisor.mono _ _ _) | (with_reducible exact LeO.refl _) | (with_reducible exact LeO.none _) | (with_reducible refine LeO.ite ?_ ?_) | (with_reducible refine LeO.bind ?_ (fun _ => ?_)) | exact ih0 _ _ _ _ | exact impl_divisor.mono _ _ _ | exact LeO.none _ | refine LeO.ite ?_ ?_ | refine LeO.bind ?_ (fun _ => ?_)
theorem impl_Tasks_multiple.mono : ∀ a0 k, LeO (impl_Tasks_multiple.f k a0) (impl_Tasks_multiple.f (k + 1) a0) := by
  intro a0 k
  have ih0 := impl_Tasks_multiple.mono_l k
  unfold impl_Tasks_multiple.f
  repeat' first | (with_reducible exact ih0 _ _ _ _) | (with_reducible exact impl_divisor.mono _ _ _) | (with_reducible exact LeO.refl _) | (with_reducible exact LeO.none _) | (with_reducible refine LeO.ite ?_ ?_) | (with_reducible refine LeO.bind ?_ (fun _ => ?_)) | exact ih0 _ _ _ _ | exact impl_divisor.mono _ _ _ | exact LeO.none _ | refine LeO.ite ?_ ?_ | refine LeO.bind ?_ (fun _ => ?_)
set_option maxHeartbeats 8000000 in
set_option maxRecDepth 100000 in
theorem impl_Tasks_multiple.calls (k : Nat) (A0_0 : Option Addr) (c0_0 : Nat) (l0_0 : List Int) (r : Int) (w : World) (hr0_0 : Kd.C (Kd.int .i64) w A0_0 l0_0.length l0_0) (hc0_0 : l0_0.length ≤ c0_0) (h : impl_Tasks_multiple.f k l0_0 = some r) :
    Calls Try.prog 57 #[.agg #[.slice A0_0 l0_0.length c0_0]] w fun e w' => e = .returned (.int .i64 r) ∧ Below w.heap.size w w' := by
 have hu26 := Try.underlying26
 have HR0_0 := Aside0.mk hr0_0
 have HC0_0 := Aside0.mk hc0_0
 clear hr0_0 hc0_0
 have HB := Aside0.mk (Below.refl w.heap.size w)
 have H : (impl_Tasks_multiple.l0 k 1 l0_0 (l0_0.length : Int) 0) = some r := h
 clear h
 have H' := Aside0.mk H
 clear H
 go_enter Try.func57, Try.ntmps57
 go_wp2_with (first | ((with_reducible refine gate_dst (N := 1) rfl ?_); refine box_event zr (N := 1) zr (cs := #[.slice A0_0 l0_0.length c0_0]) (t := 26) zg ?_; intro gb101 hg w2 hbox hb; have n_ := y4 (below_step (zB) hb) (hbox) ((zS hg : w.heap.size ≤ gb101)) ((zS hg : w.heap.size ≤ gb101)); clear HB; obtain ⟨HB, BK101, GW101, GE101⟩ := n_; clear hb hbox hg; have hcz3_0 := zc BK101.out; have hfz3_0 := blk_frozen BK101.out 0))
 go_loopg [3, 9] k (fun kq v3 v9 w' => ∃ (x3_1 : Int) (x9_1 : Int), v3 = .int .i64 x3_1 ∧ v9 = .int .i64 x9_1 ∧ Aside0 (impl_Tasks_multiple.l0 kq x3_1 l0_0 (l0_0.length : Int) x9_1 = some r) ∧ Aside0 (kq ≤ k) ∧ Aside0 (w'.heap[gb101]? = some (.cells #[(.slice A0_0 l0_0.length c0_0)] 26 (0, 0))) ∧ Aside0 (Below w.heap.size w w'))
 case atStart => exact ⟨(1), (0), zF, zF, H', ⟨Nat.le_refl _⟩, ⟨zG BK101.out⟩, ⟨zB⟩⟩
 clear H'
 try clear hcz3_0
 try clear hfz3_0
 obtain ⟨x3_1, x9_1, rfl, rfl, HA, HK1, BK101, HB⟩ := hrel
 cases gk with
 | zero => exact absurd HA.out (by simp [impl_Tasks_multiple.l0])
 | succ k1 =>
   have H := HA.out
   clear HA
   simp only [impl_Tasks_multiple.l0] at H
   by_cases c4 : x9_1 < (l0_0.length : Int)
   · rw [if_pos c4] at H
     have c4b0 : decide (x9_1 < (l0_0.length : Int)) = true := decide_eq_true c4
     clear c4
     by_cases c5 : 0 ≤ x9_1
     · rw [if_pos c5] at H
       have c5b0 : decide (0 ≤ x9_1) = true := decide_eq_true c5
       clear c5
       by_cases c6 : x9_1 < (l0_0.length : Int)
       · rw [if_pos c6] at H
         have c6b0 : decide (x9_1 < (l0_0.length : Int)) = true := decide_eq_true c6
         clear c6
         replace H := Option.bind_eq_some_iff.mp H
         obtain ⟨t103, A70, H⟩ := H
         replace H : (if t103 = 0 then (none) else (impl_Tasks_multiple.l0 k1 (wrap64 ((wrap64 (Int.tdiv x3_1 t103)) * (rd l0_0 x9_1))) l0_0 (l0_0.length : Int) (wrap64 (x9_1 + 1)))) = some r := H
         have A7 := Aside0.mk A70
         clear A70
         by_cases c8 : t103 = 0
         · rw [if_pos c8] at H
           exact absurd H (by simp)
         · rw [if_neg c8] at H
           have c8b0 : (t103 == 0) = false := beq_eq_false_iff_ne.mpr c8
           have c8b1 : (t103 != 0) = true := bne_iff_ne.mpr c8
           have H' := Aside0.mk H
           clear H
           have p102 : 0 ≤ (x9_1 : Int) := zD
           have q102 : x9_1 < (l0_0.length : Int) := zD
           obtain ⟨ad102, e102, hx102_0⟩ := Kd.at_int HR0_0.out x9_1 p102 q102
           cases e102
           replace hx102_0 := (HB.out.cell (World.block_lt_of_cell? w _ hx102_0)).trans hx102_0
           replace p102 := eq_true p102
           replace q102 := eq_true q102
           go_wp2_with (first | ((with_reducible refine gate_callee (f := 58) rfl ?_); refine goesL_ (some 16) rfl rfl Try.func58 zk rfl #[.int .i64 x3_1, .int .i64 (rd l0_0 x9_1)] rfl zA ?_; (with_reducible refine (impl_divisor.calls k1 x3_1 (rd l0_0 x9_1) t103 _ A7.out).mono ?_); rintro e w' ⟨rfl, ⟨nd, rfl⟩⟩; refine ⟨_, rfl, ?_⟩))
           go_roundg k1
           case measure => have := HK1.out; omega
           case rel => exact ⟨(wrap64 ((wrap64 (Int.tdiv x3_1 t103)) * (rd l0_0 x9_1))), (wrap64 (x9_1 + 1)), zF, zF, H', ⟨by have := HK1.out; omega⟩, ⟨zG BK101.out⟩, ⟨zB⟩⟩
       · rw [if_neg c6] at H
         exact absurd H (by simp)
     · rw [if_neg c5] at H
       exact absurd H (by simp)
   · rw [if_neg c4] at H
     have c4b0 : decide (x9_1 < (l0_0.length : Int)) = false := decide_eq_false c4
     clear c4
     obtain rfl := Option.some.inj H
     go_wp2
     go_ret
     exact ⟨zE, zB⟩
end Go.Proofs.Ytgbapmmfhdphmaa.P
end
section
namespace Go.Proofs.Ytgbapmmfhdphmaa.P
open Go.RowKit Go.Proofs.YtgbapmmfhdphmaaW.PrintWords Go.Proofs.YtgbapmmfhdphmaaW.PrintLast Go.Proofs.YtgbapmmfhdphmaaW.PrintMore
attribute [local go_sem] max2_int min2_int max_two min_two max_three min_three max_four min_four   -- for this text's walks alone
set_option linter.unusedVariables false
set_option linter.unusedSimpArgs false
def impl_Tasks_density.l0 : Nat → Int → Int → List Int → Int → Int → Option (Int × Int)
  | 0, _, _, _, _, _ => none
  | k + 1, x4, x5, x12, x13, x14 => if x14 < x13 then (if 0 ≤ x14 then (if x14 < (x12.length : Int) then (if (rd x12 x14) = 0 then (none) else (impl_Tasks_density.l0 k x4 (wrap64 (x5 + (wrap64 (Int.tdiv x4 (rd x12 x14))))) x12 x13 (wrap64 (x14 + 1)))) else (none)) else (none)) else ((impl_divisor.f k x5 x4).bind fun t104 => (if t104 = 0 then (none) else (some (wrap64 (Int.tdiv x5 t104), wrap64 (Int.tdiv x4 t104)))))
def impl_Tasks_density.f (k : Nat) (l0_0 : List Int) : Option (Int × Int) := (impl_Tasks_multiple.f k l0_0).bind fun t102 => (impl_Tasks_density.l0 k t102 0 l0_0 (l0_0.length : Int) 0)
theorem impl_Tasks_density.mono_l : ∀ k, (∀ y0 y1 y2 y3 y4, LeO (impl_Tasks_density.l0 k y0 y1 y2 y3 y4) (impl_Tasks_density.l0 (k + 1) y0 y1 y2 y3 y4))
  | 0 => fun _ _ _ _ _ r h => by simp [impl_Tasks_density.l0] at h
  | k + 1 => by
    have ih0 := impl_Tasks_density.mono_l k
    · intro y0 y1 y2 y3 y4
      unfold impl_Tasks_density.l0
      repeat' first | (with_reducible exact ih0 _ _ _ _ _) | (with_reducible exact impl_Tasks_multiple.mono _ _) | (with_reducible exact impl_divisor.mono _ _ _) | (with_reducible exact LeO.refl _) | (with_reducible exact LeO.none _) | (with_reducible refine LeO.ite ?_ ?_) | (with_reducible refine LeO.bind ?_ (fun _ => ?_)) | exact ih0 _ _ _ _ _ | exact impl_Tasks_multiple.mono _ _ | exact impl_divisor.mono _ _ _ | exact LeO.none _ | refine LeO.ite ?_ ?_ | refine LeO.bind ?_ (fun _ => ?_)
theorem impl_Tasks_density.mono : ∀ a0 k, LeO (impl_Tasks_density.f k a0) (impl_Tasks_density.f (k + 1) a0) := by
  intro a0 k
  have ih0 := impl_Tasks_density.mono_l k
  unfold impl_Tasks_density.f
  repeat' first | (with_reducible exact ih0 _ _ _ _ _) | (with_reducible exact impl_Tasks_multiple.mono _ _) | (with_reducible exact impl_divisor.mono _ _ _) | (with_reducible exact LeO.refl _) | (with_reducible exact LeO.none _) | (with_reducible refine LeO.ite ?_ ?_) | (with_reducible refine LeO.bind ?_ (fun _ => ?_)) | exact ih0 _ _ _ _ _ | exact impl_Tasks_multiple.mono _ _ | exact impl_divisor.mono _ _ _ | exact LeO.none _ | refine LeO.ite ?_ ?_ | refine LeO.bind ?_ (fun _ => ?_)
set_option maxHeartbeats 8000000 in
set_option maxRecDepth 100000 in
theorem impl_Tasks_density.calls (k : Nat) (A0_0 : Option Addr) (c0_0 : Nat) (l0_0 : List Int) (r1 : Int) (r2 : Int) (w : World) (hr0_0 : Kd.C (Kd.int .i64) w A0_0 l0_0.length l0_0) (hc0_0 : l0_0.length ≤ c0_0) (h : impl_Tasks_density.f k l0_0 = some (r1, r2)) :
    Calls Try.prog 32 #[.agg #[.slice A0_0 l0_0.length c0_0]] w fun e w' => e = .returned (.tuple #[.int .i64 r1, .int .i64 r2]) ∧ Below w.heap.size w w' := by
 have hu26 := Try.underlying26
 have HR0_0 := Aside0.mk hr0_0
 have HC0_0 := Aside0.mk hc0_0
 clear hr0_0 hc0_0
 have HB := Aside0.mk (Below.refl w.heap.size w)
 have H : ((impl_Tasks_multiple.f k l0_0).bind fun t102 => (impl_Tasks_density.l0 k t102 0 l0_0 (l0_0.length : Int) 0)) = some (r1, r2) := h
 clear h
 replace H := Option.bind_eq_some_iff.mp H
 obtain ⟨t102, A20, H⟩ := H
 replace H : (impl_Tasks_density.l0 k t102 0 l0_0 (l0_0.length : Int) 0) = some (r1, r2) := H
 have A2 := Aside0.mk A20
 clear A20
 have H' := Aside0.mk H
 clear H
 go_enter Try.func32, Try.ntmps32
 go_wp2_with (first | ((with_reducible refine gate_dst (N := 1) rfl ?_); refine box_event zr (N := 1) zr (cs := #[.slice A0_0 l0_0.length c0_0]) (t := 26) zg ?_; intro gb101 hg w3 hbox hb; have n_ := y4 (below_step (zB) hb) (hbox) ((zS hg : w.heap.size ≤ gb101)) ((zS hg : w.heap.size ≤ gb101)); clear HB; obtain ⟨HB, BK101, GW101, GE101⟩ := n_; clear hb hbox hg; have hcz4_0 := zc BK101.out; have hfz4_0 := blk_frozen BK101.out 0) | (go_at_call 57; (with_reducible refine (impl_Tasks_multiple.calls k _ _ l0_0 t102 _ ?side1 ?side2 A2.out).mono ?_); (case side1 => exact zC (Kd.C_below HR0_0.out HB.out)); (case side2 => exact HC0_0.out); rintro e w5 ⟨rfl, hb⟩; have n_ := y2 (zb BK101.out hb) (below_step (zB) hb); clear BK101 HB; obtain ⟨BK101, HB⟩ := n_; (try clear hb); (try clear hb2); (try clear hk); (try clear hi); have hcz6_0 := zc BK101.out; have hfz6_0 := blk_frozen BK101.out 0))
 repeat (go_quiet (first | ((with_reducible refine gate_dst (N := 1) rfl ?_); refine box_event zr (N := 1) zr (cs := #[.slice A0_0 l0_0.length c0_0]) (t := 26) zg ?_; intro gb101 hg w3 hbox hb; have n_ := y4 (below_step (zB) hb) (hbox) ((zS hg : w.heap.size ≤ gb101)) ((zS hg : w.heap.size ≤ gb101)); clear HB; obtain ⟨HB, BK101, GW101, GE101⟩ := n_; clear hb hbox hg; have hcz4_0 := zc BK101.out; have hfz4_0 := blk_frozen BK101.out 0) | (go_at_call 57; (with_reducible refine (impl_Tasks_multiple.calls k _ _ l0_0 t102 _ ?side1 ?side2 A2.out).mono ?_); (case side1 => exact zC (Kd.C_below HR0_0.out HB.out)); (case side2 => exact HC0_0.out); rintro e w5 ⟨rfl, hb⟩; have n_ := y2 (zb BK101.out hb) (below_step (zB) hb); clear BK101 HB; obtain ⟨BK101, HB⟩ := n_; (try clear hb); (try clear hb2); (try clear hk); (try clear hi); have hcz6_0 := zc BK101.out; have hfz6_0 := blk_frozen BK101.out 0)); try go_wp2_with (first | ((with_reducible refine gate_dst (N := 1) rfl ?_); refine box_event zr (N := 1) zr (cs := #[.slice A0_0 l0_0.length c0_0]) (t := 26) zg ?_; intro gb101 hg w3 hbox hb; have n_ := y4 (below_step (zB) hb) (hbox) ((zS hg : w.heap.size ≤ gb101)) ((zS hg : w.heap.size ≤ gb101)); clear HB; obtain ⟨HB, BK101, GW101, GE101⟩ := n_; clear hb hbox hg; have hcz4_0 := zc BK101.out; have hfz4_0 := blk_frozen BK101.out 0) | (go_at_call 57; (with_reducible refine (impl_Tasks_multiple.calls k _ _ l0_0 t102 _ ?side1 ?side2 A2.out).mono ?_); (case side1 => exact zC (Kd.C_below HR0_0.out HB.out)); (case side2 => exact HC0_0.out); rintro e w5 ⟨rfl, hb⟩; have n_ := y2 (zb BK101.out hb) (below_step (zB) hb); clear BK101 HB; obtain ⟨BK101, HB⟩ := n_; (try clear hb); (try clear hb2); (try clear hk); (try clear hi); have hcz6_0 := zc BK101.out; have hfz6_0 := blk_frozen BK101.out 0)))
 go_loopg [5, 14] k (fun kq v5 v14 w' => ∃ (x5_1 : Int) (x14_1 : Int), v5 = .int .i64 x5_1 ∧ v14 = .int .i64 x14_1 ∧ Aside0 (impl_Tasks_density.l0 kq t102 x5_1 l0_0 (l0_0.length : Int) x14_1 = some (r1, r2)) ∧ Aside0 (kq ≤ k) ∧ Aside0 (w'.heap[gb101]? = some (.cells #[(.slice A0_0 l0_0.length c0_0)] 26 (0, 0))) ∧ Aside0 (Below w.heap.size w w'))
 case atStart => exact ⟨(0), (0), zF, zF, H', ⟨Nat.le_refl _⟩, ⟨zG BK101.out⟩, ⟨zB⟩⟩
 clear H'
 try clear hcz4_0
 try clear hcz6_0
 try clear hfz4_0
 try clear hfz6_0
 obtain ⟨x5_1, x14_1, rfl, rfl, HA, HK1, BK101, HB⟩ := hrel
 cases gk with
 | zero => exact absurd HA.out (by simp [impl_Tasks_density.l0])
 | succ k1 =>
   have H := HA.out
   clear HA
   simp only [impl_Tasks_density.l0] at H
   by_cases c7 : x14_1 < (l0_0.length : Int)
   · rw [if_pos c7] at H
     have c7b0 : decide (x14_1 < (l0_0.length : Int)) = true := decide_eq_true c7
     clear c7
     by_cases c8 : 0 ≤ x14_1
     · rw [if_pos c8] at H
       have c8b0 : decide (0 ≤ x14_1) = true := decide_eq_true c8
       clear c8
       by_cases c9 : x14_1 < (l0_0.length : Int)
       · rw [if_pos c9] at H
         have c9b0 : decide (x14_1 < (l0_0.length : Int)) = true := decide_eq_true c9
         clear c9
         by_cases c10 : (rd l0_0 x14_1) = 0
         · rw [if_pos c10] at H
           exact absurd H (by simp)
         · rw [if_neg c10] at H
           have c10b0 : ((rd l0_0 x14_1) == 0) = false := beq_eq_false_iff_ne.mpr c10
           have c10b1 : ((rd l0_0 x14_1) != 0) = true := bne_iff_ne.mpr c10
           have H' := Aside0.mk H
           clear H
           have p103 : 0 ≤ (x14_1 : Int) := zD
           have q103 : x14_1 < (l0_0.length : Int) := zD
           obtain ⟨ad103, e103, hx103_0⟩ := Kd.at_int HR0_0.out x14_1 p103 q103
           cases e103
           replace hx103_0 := (HB.out.cell (World.block_lt_of_cell? w _ hx103_0)).trans hx103_0
           replace p103 := eq_true p103
           replace q103 := eq_true q103
           go_wp2
           repeat (go_quiet (fail); try go_wp2)
           go_roundg k1
           case measure => have := HK1.out; omega
           case rel => exact ⟨(wrap64 (x5_1 + (wrap64 (Int.tdiv t102 (rd l0_0 x14_1))))), (wrap64 (x14_1 + 1)), zF, zF, H', ⟨by have := HK1.out; omega⟩, ⟨zG BK101.out⟩, ⟨zB⟩⟩
       · rw [if_neg c9] at H
         exact absurd H (by simp)
     · rw [if_neg c8] at H
       exact absurd H (by simp)
   · rw [if_neg c7] at H
     have c7b0 : decide (x14_1 < (l0_0.length : Int)) = false := decide_eq_false c7
     clear c7
     replace H := Option.bind_eq_some_iff.mp H
     obtain ⟨t104, A110, H⟩ := H
     replace H : (if t104 = 0 then (none) else (some (wrap64 (Int.tdiv x5_1 t104), wrap64 (Int.tdiv t102 t104)))) = some (r1, r2) := H
     have A11 := Aside0.mk A110
     clear A110
     by_cases c12 : t104 = 0
     · rw [if_pos c12] at H
       exact absurd H (by simp)
     · rw [if_neg c12] at H
       have c12b0 : (t104 == 0) = false := beq_eq_false_iff_ne.mpr c12
       have c12b1 : (t104 != 0) = true := bne_iff_ne.mpr c12
       simp only [Option.some.injEq, Prod.mk.injEq] at H
       obtain ⟨rfl, rfl⟩ := H
       go_wp2_with (first | (go_at_call 58; (with_reducible refine (impl_divisor.calls k1 x5_1 t102 t104 _ A11.out).mono ?_); rintro e w' ⟨rfl, ⟨nd, rfl⟩⟩; (try exact zd)))
       repeat (go_quiet (first | (go_at_call 58; (with_reducible refine (impl_divisor.calls k1 x5_1 t102 t104 _ A11.out).mono ?_); rintro e w' ⟨rfl, ⟨nd, rfl⟩⟩; (try exact zd))); try go_wp2_with (first | (go_at_call 58; (with_reducible refine (impl_divisor.calls k1 x5_1 t102 t104 _ A11.out).mono ?_); rintro e w' ⟨rfl, ⟨nd, rfl⟩⟩; (try exact zd))))
       go_ret2
       exact ⟨zE, zB⟩
end Go.Proofs.Ytgbapmmfhdphmaa.P
end
section
namespace Go.Proofs.Ytgbapmmfhdphmaa.P
open Go.RowKit Go.Proofs.YtgbapmmfhdphmaaW.PrintWords Go.Proofs.YtgbapmmfhdphmaaW.PrintLast Go.Proofs.YtgbapmmfhdphmaaW.PrintMore
attribute [local go_sem] max2_int min2_int max_two min_two max_three min_three max_four min_four   -- for this text's walks alone
set_option linter.unusedVariables false
set_option linter.unusedSimpArgs false
def impl_Tasks_isThin.f (k : Nat) (l0_0 : List Int) : Option (Bool) := (impl_Tasks_density.f k l0_0).bind fun bt102 => (some (decide (bt102.1 ≤ bt102.2)))
theorem impl_Tasks_isThin.mono : ∀ a0 k, LeO (impl_Tasks_isThin.f k a0) (impl_Tasks_isThin.f (k + 1) a0) := by
  intro a0 k
  unfold impl_Tasks_isThin.f
  repeat' first | (with_reducible exact impl_Tasks_density.mono _ _) | (with_reducible exact LeO.refl _) | (with_reducible exact LeO.none _) | (with_reducible refine LeO.ite ?_ ?_) | (with_reducible refine LeO.bind ?_ (fun _ => ?_)) | exact impl_Tasks_density.mono _ _ | exact LeO.none _ | refine LeO.ite ?_ ?_ | refine LeO.bind ?_ (fun _ => ?_)
end Go.Proofs.Ytgbapmmfhdphmaa.P
end
