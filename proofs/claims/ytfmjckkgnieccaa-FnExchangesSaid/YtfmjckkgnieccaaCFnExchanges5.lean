/- Exchanges go back, best exchanges give less squares, smooth turns have no more squares and no better exchange, and spreads are told by waits. -/
import Derived.Test.YtfmjckkgnieccaaCFnExchanges4
section
namespace Go.Proofs.Ytfmjckkgnieccaa.P
open Go.RowKit Go.Proofs.YtfmjckkgnieccaaW.PrintWords Go.Proofs.YtfmjckkgnieccaaW.PrintLast Go.Proofs.YtfmjckkgnieccaaW.PrintMore
attribute [local go_sem] max2_int min2_int max_two min_two max_three min_three max_four min_four   -- for this text's walks alone
set_option linter.unusedVariables false
set_option linter.unusedSimpArgs false
set_option maxHeartbeats 8000000 in
set_option maxRecDepth 100000 in
theorem spec_l07Differences.calls (k : Nat) (A0 : Option Addr) (c0 : Nat) (l0 : List Int) (A1 : Option Addr) (c1 : Nat) (l1 : List Int) (r : List (List Int)) (w : World) (hr0 : Kd.C (Kd.int .i64) w A0 l0.length l0) (hc0 : l0.length ≤ c0) (hr1 : Kd.C (Kd.int .i64) w A1 l1.length l1) (hc1 : l1.length ≤ c1) (h : spec_l07Differences.f k l0 l1 = some r) :
    Calls Try.prog 63 #[.slice A0 l0.length c0, .slice A1 l1.length c1] w fun e w' => ∃ v0_ : Value, e = .returned (v0_) ∧ Kd.N (Kd.slice 2 (Kd.int .i64)) 24 w' w.heap.size (fun k_ => (w.heap.size ≤ k_)) v0_ r ∧ Below w.heap.size w w' := by
 have HR0 := Aside0.mk hr0
 have HC0 := Aside0.mk hc0
 clear hr0 hc0
 have HR1 := Aside0.mk hr1
 have HC1 := Aside0.mk hc1
 clear hr1 hc1
 have HB := Aside0.mk (Below.refl w.heap.size w)
 have H : (if 0 ≤ (l1.length : Int) then (if ((l1.length : Int) : Int).toNat ≤ 35184372088832 then (spec_l07Differences.l0 k l0 l1 (l0.length : Int) (([(List.replicate ((l1.length : Int) : Int).toNat 0)] : List (List Int))) 0) else (none)) else (none)) = some r := h
 clear h
 by_cases c3 : 0 ≤ (l1.length : Int)
 case neg => rw [if_neg c3] at H; exact absurd H (by simp)
 rw [if_pos c3] at H
 have c3b0 := eq_true c3
 have c3b1 : decide (0 ≤ (l1.length : Int)) = true := decide_eq_true c3
 clear c3
 by_cases c4 : ((l1.length : Int) : Int).toNat ≤ 35184372088832
 case neg => rw [if_neg c4] at H; exact absurd H (by simp)
 rw [if_pos c4] at H
 have c4b0 := eq_true c4
 have c4b1 : decide (((l1.length : Int) : Int).toNat ≤ 35184372088832) = true := decide_eq_true c4
 clear c4
 obtain ⟨y101, hy101⟩ : ∃ y_ : List Int, y_ = (List.replicate ((l1.length : Int) : Int).toNat 0) := ⟨_, rfl⟩
 replace H : (spec_l07Differences.l0 k l0 l1 (l0.length : Int) (([y101] : List (List Int))) 0) = some r := zH hy101
 have Ny101 := Aside0.mk hy101
 clear hy101
 obtain ⟨y104, hy104⟩ : ∃ y_ : List (List Int), y_ = (([y101] : List (List Int))) := ⟨_, rfl⟩
 replace H : (spec_l07Differences.l0 k l0 l1 (l0.length : Int) y104 0) = some r := zH hy104
 have Ny104 := Aside0.mk hy104
 clear hy104
 have H' := Aside0.mk H
 clear H
 go_enter Try.func63, Try.ntmps63
 try go_wp2
 replace HB := Aside0.mk (below_drew1 HB.out)
 refine start_ (n := 8) (S := fun w' => True) (ds := []) #[false,false,false,false,false,false,false,false] zk rfl rfl trivial (fun hHeld => ?_); refine with_tabW spec_l07Differences.tab1 spec_l07Differences.bits1 (fun HT_ HW_ => ?_)
 generalize w.drew = w5 at HB hHeld ⊢
 refine pure_ (i := 0) (N := some 10) (v := ?_) (a' := ?_) #[true,false,false,false,false,false,false,false] rfl rfl (any_of HT_.out zk) (fun _ _ _ h => h) (Or.inl ⟨by rfl, ?_⟩) ?_ ?_
 rotate_left; exact zp; rotate_left; exact zq
 refine pure_ (i := 1) (N := some 11) (v := ?_) (a' := ?_) #[true,true,false,false,false,false,false,false] rfl rfl (any_of HT_.out zk) (fun _ _ _ h => h) (Or.inl ⟨by rfl, ?_⟩) ?_ ?_
 rotate_left; exact zp; rotate_left; exact zq
 refine pure_ (i := 2) (N := some 12) (v := ?_) (a' := ?_) #[true,true,true,false,false,false,false,false] rfl rfl (any_of HT_.out zk) (fun _ _ _ h => h) (Or.inl ⟨by rfl, ?_⟩) ?_ ?_
 rotate_left; exact zp; rotate_left; exact zq
 refine pure_ (i := 3) (N := some 13) (v := ?_) (a' := ?_) #[true,true,true,true,false,false,false,false] rfl rfl (any_of HT_.out zk) (fun _ _ _ h => h) (Or.inl ⟨by rfl, ?_⟩) ?_ ?_
 rotate_left; exact zp; rotate_left; exact zq
 refine pure_ (i := 6) (N := some 5) (v := ?_) (a' := ?_) #[true,true,true,true,false,false,true,false] rfl rfl (any_of HT_.out zk) (fun _ _ _ h => h) (Or.inl ⟨by rfl, ?_⟩) ?_ ?_
 rotate_left; exact zp; rotate_left; exact zq
 refine one_ (i := 4) (N := some 14) #[true,true,true,true,true,false,true,false] rfl rfl (one_of HT_.out zk) (by decide) (fun K hK => ?_)
 refine Kd.R_make_step (Kd.int .i64) _ 2 (by rfl) (N := 14) rfl 24 _ _ rfl (l1.length : Int) rfl rfl Try.underlying24 (.int .i64 0) 8 info2 rfl (by decide) (by omega) 0 (ok := fun _ => True) (okp := fun _ => True) rfl (fun _ hk => hk) trivial (zD) (Nat.le_trans (Nat.mul_le_mul_right _ (zD : (l1.length : Int).toNat ≤ 35184372088832)) (by omega)) (Below.refl _ _) (Nat.le_refl _) ?_
 intro v102 w6 ho7 hb hg_ hnew_
 clear hg_ hnew_
 (first | rw [← Ny101.out] at ho7 | (simp only [Int.reduceToNat] at ho7; rw [← Ny101.out] at ho7))
 have n_ := y2 (Kd.R_lower (Kd.R_newM (M := fun k_ => (w.heap.size ≤ k_)) ho7 (below_size (zB)) (fun k_ h_ => h_)) (below_size (zB))) (below_step (zB) hb)
 clear HB
 obtain ⟨HO103, HB⟩ := n_
 clear hb ho7
 obtain ⟨Ao8, co8, eo8⟩ := Kd.R_slice HO103.out
 (first | subst eo8 | (injection eo8 with f1_ f2_ f3_; have f4_ := f1_.symm; have f5_ := f3_.symm; clear f1_ f2_ f3_; subst f4_; subst f5_))
 refine hK.out _ _ trivial (fun hHeld => ?_)
 clear hK K
 refine norm_ (a' := ?_) ?_ ?_
 rotate_left
 ·
  show Act.put _ (some 14) _ = _
  simp only [Act.put, List.setIfInBounds_toArray, List.set_cons_zero, List.set_cons_succ, i64_w, i32_w]
  rfl
 refine one_ (i := 5) (N := some 15) #[true,true,true,true,true,true,true,false] rfl rfl (one_of HT_.out zk) (by decide) (fun K hK => ?_)
 refine Kd.N_lit_step (Kd.slice 2 (Kd.int .i64)) _ 24 ?hg (N' := 15) ?hd (xs := ([y101] : List (List Int))) (inner := [.slice Ao8 y101.length co8]) (ok := (fun k_ => (w.heap.size ≤ k_))) (okp := (fun k_ => (w.heap.size ≤ k_))) ?hr ?hp (fun _ hk => hk) ((show ∀ k_, w6.heap.size ≤ k_ → (fun k_ => (w.heap.size ≤ k_)) k_ from fun k_ hk => (Nat.le_trans (below_size (zB)) hk)) _ (Nat.le_refl _)) (Below.refl _ _) (Nat.le_refl _) (by simp) ?_; (case hd => rfl); (case hg => rfl); (case hr => first | (go_simp; done) | (go_simp; rfl)); (case hp => exact (Reps.one (show Kd.FK (Kd.slice 2 (Kd.int .i64)) _ _ y101 [.slice Ao8 y101.length co8] from (Kd.FK_slice_mk (Kd.R_reads' (Kd.R_mono (ok' := (fun k_ => (w.heap.size ≤ k_))) (HO103.out) (fun k_ hk => hk.1))).2.1 (Kd.R_F (Kd.R_mono (ok' := (fun k_ => (w.heap.size ≤ k_))) (HO103.out) (fun k_ hk => hk.1))))) (Reps.none _ _)))
 intro v105 w9 ho10 hb hg_ hnew_
 clear hg_ hnew_
 (first | rw [← Ny104.out] at ho10 | (simp only [Int.reduceToNat] at ho10; rw [← Ny104.out] at ho10))
 have n_ := y2 (Kd.N_lower ho10 (below_size (zB))) (below_step (zB) hb)
 clear HB HO103
 obtain ⟨HO106, HB⟩ := n_
 clear hb ho10
 refine hK.out _ _ trivial (fun hHeld => ?_)
 clear hK K
 refine norm_ (a' := ?_) ?_ ?_
 rotate_left
 ·
  show Act.put _ (some 15) _ = _
  simp only [Act.put, List.setIfInBounds_toArray, List.set_cons_zero, List.set_cons_succ, i64_w, i32_w]
  rfl
 refine pure_ (i := 7) (N := some 6) (v := ?_) (a' := ?_) #[true,true,true,true,true,true,true,true] rfl rfl (any_of HT_.out zk) (fun _ _ _ h => h) (Or.inl ⟨by rfl, ?_⟩) ?_ ?_
 rotate_left; exact zp; rotate_left; exact zq
 refine done_ (done_of HT_.out zk) ?_
 try go_wp2
 go_loopg [6, 7] k (fun kq v6 v7 w' => ∃ (x6_1 : List (List Int)) (x7_1 : Int), v7 = .int .i64 x7_1 ∧ Aside0 (spec_l07Differences.l0 kq l0 l1 (l0.length : Int) x6_1 x7_1 = some r) ∧ Aside0 (kq ≤ k) ∧ Aside0 (Kd.N (Kd.slice 2 (Kd.int .i64)) 24 w' w.heap.size (fun k_ => (w.heap.size ≤ k_)) v6 x6_1) ∧ Aside0 (Below w.heap.size w w'))
 case atStart => exact ⟨(y104), (0), zF, H', ⟨Nat.le_refl _⟩, ⟨by (with_reducible repeat (first | apply Kd.N_alloc | apply Kd.N_drewN | apply Kd.N_drew)); exact HO106.out⟩, ⟨zB⟩⟩
 clear H'
 try clear c3
 try clear c3b0
 try clear c3b1
 try clear c4
 try clear c4b0
 try clear c4b1
 obtain ⟨x6_1, x7_1, rfl, HA, HK1, HO_6, HB⟩ := hrel
 cases gk with
 | zero => exact absurd HA.out (by simp [spec_l07Differences.l0])
 | succ k1 =>
   have H := HA.out
   clear HA
   simp only [spec_l07Differences.l0] at H
   by_cases c11 : x7_1 < (l0.length : Int)
   · rw [if_pos c11] at H
     have c11b0 : decide (x7_1 < (l0.length : Int)) = true := decide_eq_true c11
     clear c11
     by_cases c12 : 0 ≤ x7_1
     · rw [if_pos c12] at H
       have c12b0 : decide (0 ≤ x7_1) = true := decide_eq_true c12
       clear c12
       by_cases c13 : x7_1 < (x6_1.length : Int)
       · rw [if_pos c13] at H
         have c13b0 : decide (x7_1 < (x6_1.length : Int)) = true := decide_eq_true c13
         clear c13
         replace H := Option.bind_eq_some_iff.mp H
         obtain ⟨t108, A140, H⟩ := H
         replace H : (spec_l07Differences.l1 k1 l0 l1 (l0.length : Int) x6_1 x7_1 t108 (t108.length : Int) 0) = some r := H
         have A14 := Aside0.mk A140
         clear A140
         have H' := Aside0.mk H
         clear H
         obtain ⟨Ao15, co15, eo15⟩ := Kd.N_slice HO_6.out
         subst eo15
         have p107 : 0 ≤ (x7_1 : Int) := zD
         have q107 : x7_1 < (x6_1.length : Int) := zD
         obtain ⟨ad107, A107_0, c107_0, e107, hx107_0, hl107_0, hi107_0⟩ := at_L2 (Kd.N_reads' HO_6.out).2.2 x7_1 p107 q107
         cases e107
         obtain ⟨ce107, hce107, hMe107, hcc107⟩ := Kd.N_get HO_6.out [] x7_1 p107 (by first | exact q107 | exact zD | (have e_ := (Kd.N_reads' HO_6.out).1; omega))
         obtain ⟨ua107_0, uc107_0, rfl, ul107_0, ge107_0⟩ := Kd.FK_slice_open hMe107
         have hv107_0 := hcc107 0 _ rfl
         rw [Nat.add_zero, show ((Kd.slice 2 (Kd.int .i64))).sz = 1 from rfl, Nat.mul_one] at hv107_0
         replace hv107_0 := Option.some.inj (hv107_0.symm.trans hx107_0)
         injection hv107_0 with hva_ hvn_ hvc_
         rw [hva_] at ge107_0
         rw [hvc_] at ul107_0
         have HL107_0 := Aside0.mk (show Kd.V (Kd.int .i64) 2 _ w.heap.size _ _ (rd_L2 x6_1 x7_1) from Kd.V_mk ul107_0 ge107_0)
         clear hva_ hvn_ hvc_ ge107_0 ul107_0
         clear hcc107 hce107
         have HR107_0 := Aside0.mk hi107_0
         have HC107_0 := Aside0.mk hl107_0
         clear hi107_0 hl107_0
         replace p107 := eq_true p107
         replace q107 := eq_true q107
         go_wp2_with (first | ((with_reducible refine gate_callee (f := 32) rfl ?_); refine goesL_ (some 26) rfl rfl Try.func32 zk rfl #[.slice A107_0 (rd_L2 x6_1 x7_1).length c107_0] rfl zA ?_; (with_reducible refine (spec_l01Own.calls _ _ (rd_L2 x6_1 x7_1) t108 _ ?side1 ?side2 A14.out).mono ?_); (case side1 => repeat (first | exact (by repeat (first | (with_reducible exact HR107_0.out) | (with_reducible refine Kd.C_alloc ?_ _) | (with_reducible refine Kd.C_drewN ?_ _) | (with_reducible refine Kd.C_drew ?_) | exact HR107_0.out)) | (with_reducible refine Kd.C_alloc ?_ _) | (with_reducible refine Kd.C_drewN ?_ _) | (with_reducible refine Kd.C_drew ?_))); (case side2 => exact HC107_0.out); rintro e w16 ⟨v109, rfl, ho0, hb⟩; refine ⟨_, rfl, ?_⟩; have n_ := y5 (Kd.N_elder' (by (with_reducible repeat (first | apply Kd.N_alloc | apply Kd.N_drewN | apply Kd.N_drew)); exact HO_6.out) (Kd.R_base ho0) hb) (Kd.V_elder' (by (with_reducible repeat (first | apply Kd.V_alloc | apply Kd.V_drewN | apply Kd.V_drew)); exact HL107_0.out) (Kd.R_base ho0) hb) (Kd.R_lower (Kd.R_newM (M := fun k_ => (w.heap.size ≤ k_)) ho0 (below_size (zB)) (fun k_ h_ => h_)) (below_size (zB))) (Kd.C_below (by repeat (first | (with_reducible exact HR107_0.out) | (with_reducible refine Kd.C_alloc ?_ _) | (with_reducible refine Kd.C_drewN ?_ _) | (with_reducible refine Kd.C_drew ?_) | exact HR107_0.out)) hb) (below_step (zB) hb); clear HO_6 HL107_0 HR107_0 HB; obtain ⟨HO_6, HL107_0, HO110, HR107_0, HB⟩ := n_; (try clear hb); (try clear hb2); (try clear hk); (try clear hi); (try clear ho0); obtain ⟨Ao17, co17, eo17⟩ := Kd.R_slice HO110.out; subst eo17))
         go_loopg [29] k1 (fun kq v29 w' => ∃ (x8_2 : List Int) (x29_2 : Int), v29 = .int .i64 x29_2 ∧ Aside0 (spec_l07Differences.l1 kq l0 l1 (l0.length : Int) x6_1 x7_1 x8_2 (t108.length : Int) x29_2 = some r) ∧ Aside0 (kq ≤ k1) ∧ Aside0 (Kd.N (Kd.slice 2 (Kd.int .i64)) 24 w' w.heap.size (fun k_ => (w.heap.size ≤ k_) ∧ some k_ ≠ ((.slice Ao17 t108.length co17) : Value).ownBlock) (.slice (some ad107) x6_1.length co15) x6_1) ∧ Aside0 (Kd.R (Kd.int .i64) 2 w' w.heap.size (fun k_ => (w.heap.size ≤ k_)) (.slice Ao17 t108.length co17) x8_2) ∧ Aside0 (Below w.heap.size w w'))
         case atStart => exact ⟨(t108), (0), zF, H', ⟨Nat.le_refl _⟩, ⟨by (with_reducible repeat (first | apply Kd.N_alloc | apply Kd.N_drewN | apply Kd.N_drew)); exact HO_6.out⟩, ⟨by refine zR ?_; exact Kd.R_mono HO110.out (fun _ hk => hk.1)⟩, ⟨zB⟩⟩
         case round =>
           clear H'
           try clear c3
           try clear c3b0
           try clear c3b1
           try clear c4
           try clear c4b0
           try clear c4b1
           try clear c11
           try clear c11b0
           try clear c12
           try clear c12b0
           try clear c13
           try clear c13b0
           try clear hx107_0
           try clear p107
           try clear q107
           obtain ⟨x8_2, x29_2, rfl, HA, HK2, HO_6, HO_8, HB⟩ := hrel
           have hl8_2 := (Kd.R_reads' HO_8.out).1
           rw [hl8_2] at HO_8
           (try simp only [hl8_2])
           (try simp only [hl8_2] at HO_6)
           cases gk with
           | zero => exact absurd HA.out (by simp [spec_l07Differences.l1])
           | succ k2 =>
             have H := HA.out
             clear HA
             simp only [spec_l07Differences.l1] at H
             by_cases c18 : x29_2 < (t108.length : Int)
             · rw [if_pos c18] at H
               have c18b0 : decide (x29_2 < (t108.length : Int)) = true := decide_eq_true c18
               clear c18
               by_cases c19 : 0 ≤ x29_2
               · rw [if_pos c19] at H
                 have c19b0 : decide (0 ≤ x29_2) = true := decide_eq_true c19
                 clear c19
                 by_cases c20 : x29_2 < (x8_2.length : Int)
                 · rw [if_pos c20] at H
                   have c20b0 : decide (x29_2 < (x8_2.length : Int)) = true := decide_eq_true c20
                   clear c20
                   by_cases c21 : x29_2 < (l1.length : Int)
                   · rw [if_pos c21] at H
                     have c21b0 : decide (x29_2 < (l1.length : Int)) = true := decide_eq_true c21
                     clear c21
                     obtain ⟨y113, hy113⟩ : ∃ y_ : List Int, y_ = (x8_2.set (x29_2 : Int).toNat (wrap64 ((rd x8_2 x29_2) - (rd l1 x29_2)))) := ⟨_, rfl⟩
                     replace H : (spec_l07Differences.l1 k2 l0 l1 (l0.length : Int) x6_1 x7_1 y113 (t108.length : Int) (wrap64 (x29_2 + 1))) = some r := zH hy113
                     have Ny113 := Aside0.mk hy113
                     clear hy113
                     have H' := Aside0.mk H
                     clear H
                     try go_wp2
                     have n_ := y3 (Kd.N_drew HO_6.out) (Kd.R_drew HO_8.out) (below_drew1 HB.out)
                     clear HO_6 HO_8 HB
                     obtain ⟨HO_6, HO_8, HB⟩ := n_
                     have p111 : 0 ≤ (x29_2 : Int) := zD
                     have q111 : x29_2 < (x8_2.length : Int) := zD
                     obtain ⟨ad111, e111, hx111_0⟩ := Kd.at_int (Kd.R_reads' HO_8.out).2.2 x29_2 p111 q111
                     cases e111
                     replace p111 := eq_true p111
                     replace q111 := eq_true q111
                     have p112 : 0 ≤ (x29_2 : Int) := zD
                     have q112 : x29_2 < (l1.length : Int) := zD
                     obtain ⟨ad112, e112, hx112_0⟩ := Kd.at_int HR1.out x29_2 p112 q112
                     have hw112_0 := hx112_0
                     cases e112
                     replace hx112_0 := (HB.out.cell (World.block_lt_of_cell? w _ hx112_0)).trans hx112_0
                     replace p112 := eq_true p112
                     replace q112 := eq_true q112
                     have p22 : 0 ≤ (x29_2 : Int) := zD
                     have q22 : (x29_2 : Int) < ((x8_2.length : Int) : Int) := zD
                     obtain ⟨go22, co22, eo22, gb22, gl22, cl22, HG22⟩ := Kd.R_form HO_8.out (by omega)
                     (first | cases eo22 | (injection eo22 with ea_ en_ ec_; (first | subst ea_ | (injection ea_ with ea_; subst ea_)); subst ec_; clear en_))
                     have GB22 := Aside0.mk gb22
                     have GG22 := Aside0.mk HG22
                     clear gb22 gl22 HG22
                     (first | simp only [add_plain] at hx111_0 | skip)
                     obtain ⟨hx22_0, hf22_0⟩ := Kd.R_celln 0 HO_8.out (x29_2 : Int) p22 q22
                     replace p22 := eq_true p22
                     replace q22 := eq_true q22
                     have HP24 := Kd.R_putn HO_8.out (x29_2 : Int) (wrap64 ((rd x8_2 x29_2) - (rd l1 x29_2)))
                     rw [← Ny113.out] at HP24
                     have HQ24 := Aside0.mk HP24
                     clear HP24
                     refine start_ (n := 13) (S := fun w' => w'.cell? ⟨go22, (x29_2).toNat, none⟩ = some (.int .i64 (rd x8_2 x29_2)) ∧ w'.cell? (ad112.add (x29_2).toNat) = some (.int .i64 (rd l1 x29_2))) (ds := [12]) #[false,false,false,false,false,false,false,false,false,false,false,false,false] zk rfl rfl ⟨hx111_0, ((HB.out.cell (World.block_lt_of_cell? w _ hw112_0)).trans hw112_0)⟩ (fun hHeld => ?_); refine with_tabW spec_l07Differences.tab9 spec_l07Differences.bits9 (fun HT_ HW_ => ?_)
                     generalize wr.drew = w23 at HO_6 HO_8 HB GG22 HQ24 hf22_0 hx111_0 hx112_0 hx22_0 hHeld ⊢
                     refine pure_ (i := 0) (N := some 32) (v := ?_) (a' := ?_) #[true,false,false,false,false,false,false,false,false,false,false,false,false] rfl rfl (any_of HT_.out zk) (fun _ _ _ h => h) (Or.inl ⟨by rfl, ?_⟩) ?_ ?_
                     rotate_left; exact zp; rotate_left; exact zq
                     refine pure_ (i := 1) (N := some 33) (v := ?_) (a' := ?_) #[true,true,false,false,false,false,false,false,false,false,false,false,false] rfl rfl (any_of HT_.out zk) (fun _ _ _ h => h) (Or.inl ⟨by rfl, ?_⟩) ?_ ?_
                     rotate_left; exact zp; rotate_left; exact zq
                     refine pure_ (i := 2) (N := some 34) (v := ?_) (a' := ?_) #[true,true,true,false,false,false,false,false,false,false,false,false,false] rfl rfl (any_of HT_.out zk) (fun _ _ _ h => h) (Or.inl ⟨by rfl, ?_⟩) ?_ ?_
                     rotate_left; exact zp; rotate_left; exact zq
                     refine pure_ (i := 3) (N := some 35) (v := ?_) (a' := ?_) #[true,true,true,true,false,false,false,false,false,false,false,false,false] rfl rfl (any_of HT_.out zk) (fun _ _ _ h => h) (Or.inl ⟨by rfl, ?_⟩) ?_ ?_
                     rotate_left; exact zp; rotate_left; exact zq
                     refine pure_ (i := 4) (N := some 36) (v := ?_) (a' := ?_) #[true,true,true,true,true,false,false,false,false,false,false,false,false] rfl rfl (any_of HT_.out zk) (fun _ _ _ h => h) (Or.inl ⟨by rfl, ?_⟩) ?_ ?_
                     rotate_left; exact zp; rotate_left; exact zq
                     refine pure_ (i := 6) (N := some 38) (v := ?_) (a' := ?_) #[true,true,true,true,true,false,true,false,false,false,false,false,false] rfl rfl (any_of HT_.out zk) (fun _ _ _ h => h) (Or.inl ⟨by rfl, ?_⟩) ?_ ?_
                     rotate_left; exact zp; rotate_left; exact zq
                     refine pure_ (i := 7) (N := some 39) (v := ?_) (a' := ?_) #[true,true,true,true,true,false,true,true,false,false,false,false,false] rfl rfl (any_of HT_.out zk) (fun _ _ _ h => h) (Or.inl ⟨by rfl, ?_⟩) ?_ ?_
                     rotate_left; exact zp; rotate_left; exact zq
                     refine pure_ (i := 8) (N := some 40) (v := ?_) (a' := ?_) #[true,true,true,true,true,false,true,true,true,false,false,false,false] rfl rfl (any_of HT_.out zk) (fun _ _ _ h => h) (Or.inl ⟨by rfl, ?_⟩) ?_ ?_
                     rotate_left; exact zp; rotate_left; exact zq
                     refine take_ (i := 5) (N := some 37) (v := ?_) (a' := ?_) #[true,true,true,true,true,true,true,true,true,false,false,false,false] rfl rfl (take_ofW HT_.out HW_.out zk) (fun _ _ _ h => h) (Or.inl ⟨by rfl, ?_⟩) hHeld ?_ ?_
                     rotate_left
                     · rintro w' ⟨s0, s1⟩
                       go_simp
                       with_reducible rfl
                     rotate_left
                     · simp only [Act.put, List.setIfInBounds_toArray, List.set_cons_zero, List.set_cons_succ, i64_w, i32_w]
                       rfl
                     refine take_ (i := 9) (N := some 41) (v := ?_) (a' := ?_) #[true,true,true,true,true,true,true,true,true,true,false,false,false] rfl rfl (take_ofW HT_.out HW_.out zk) (fun _ _ _ h => h) (Or.inl ⟨by rfl, ?_⟩) hHeld ?_ ?_
                     rotate_left
                     · rintro w' ⟨s0, s1⟩
                       go_simp
                       with_reducible rfl
                     rotate_left
                     · simp only [Act.put, List.setIfInBounds_toArray, List.set_cons_zero, List.set_cons_succ, i64_w, i32_w]
                       rfl
                     refine pure_ (i := 10) (N := some 42) (v := ?_) (a' := ?_) #[true,true,true,true,true,true,true,true,true,true,true,false,false] rfl rfl (any_of HT_.out zk) (fun _ _ _ h => h) (Or.inl ⟨by rfl, ?_⟩) ?_ ?_
                     rotate_left; exact zp; rotate_left; exact zq
                     refine pure_ (i := 11) (N := some 43) (v := ?_) (a' := ?_) #[true,true,true,true,true,true,true,true,true,true,true,true,false] rfl rfl (any_of HT_.out zk) (fun _ _ _ h => h) (Or.inl ⟨by rfl, ?_⟩) ?_ ?_
                     rotate_left; exact zp; rotate_left; exact zq
                     refine last_ (i := 12) (N := none) #[true,true,true,true,true,true,true,true,true,true,true,true,true] rfl rfl (one_of HT_.out zk) (by decide) (fun K hK => ?_)
                     refine skip_ (w1 := ?_) (by rfl) rfl ?_ ?_
                     rotate_left
                     · go_simp
                       rfl
                     refine hK.out _ _ ?_
                     clear hK K
                     refine done_ (done_of HT_.out zk) ?_
                     try go_wp2
                     (try simp only [← hl8_2])
                     go_roundg k2
                     case measure => have := HK1.out; have := HK2.out; omega
                     case rel => exact ⟨(y113), (wrap64 (x29_2 + 1)), zF, H', ⟨by have := HK1.out; have := HK2.out; omega⟩, ⟨by (try simp only [hl8_2]); (with_reducible repeat (first | apply Kd.N_alloc | apply Kd.N_drewN | apply Kd.N_drew)); exact Kd.N_mono (Kd.N_far (p := ⟨go22, (x29_2 : Int).toNat, none⟩) (Kd.N_mono HO_6.out (fun k_ hk => (⟨hk, fun e_ => hk.2 (by rw [e_]; rfl)⟩ : _ ∧ k_ ≠ go22))) (fun _ hk => hk.2) (.int .i64 (wrap64 ((rd x8_2 x29_2) - (rd l1 x29_2))))) (fun _ hk => ⟨hk.1.1, hk.1.2⟩)⟩, ⟨by (try simp only [hl8_2]); refine zR ?_; exact HQ24.out⟩, ⟨zB⟩⟩
                   · rw [if_neg c21] at H
                     exact absurd H (by simp)
                 · rw [if_neg c20] at H
                   exact absurd H (by simp)
               · rw [if_neg c19] at H
                 exact absurd H (by simp)
             · rw [if_neg c18] at H
               have c18b0 : decide (x29_2 < (t108.length : Int)) = false := decide_eq_false c18
               (try simp only [hl8_2] at c18b0)
               (try simp only [hl8_2] at c18b0)
               clear c18
               by_cases c25 : 0 ≤ x7_1
               · rw [if_pos c25] at H
                 have c25b0 : decide (0 ≤ x7_1) = true := decide_eq_true c25
                 clear c25
                 by_cases c26 : x7_1 < (l0.length : Int)
                 · rw [if_pos c26] at H
                   have c26b0 : decide (x7_1 < (l0.length : Int)) = true := decide_eq_true c26
                   clear c26
                   by_cases c27 : 0 ≤ (rd l0 x7_1)
                   · rw [if_pos c27] at H
                     have c27b0 : decide (0 ≤ (rd l0 x7_1)) = true := decide_eq_true c27
                     clear c27
                     by_cases c28 : (rd l0 x7_1) < (x8_2.length : Int)
                     · rw [if_pos c28] at H
                       have c28b0 : decide ((rd l0 x7_1) < (x8_2.length : Int)) = true := decide_eq_true c28
                       clear c28
                       obtain ⟨y117, hy117⟩ : ∃ y_ : List Int, y_ = (x8_2.set ((rd l0 x7_1) : Int).toNat (wrap64 ((rd x8_2 (rd l0 x7_1)) + (l0.length : Int)))) := ⟨_, rfl⟩
                       replace H : (if x6_1.length < 5864062014805 then (spec_l07Differences.l0 k2 l0 l1 (l0.length : Int) (x6_1 ++ [y117]) (wrap64 (x7_1 + 1))) else (none)) = some r := zH hy117
                       have Ny117 := Aside0.mk hy117
                       clear hy117
                       by_cases c30 : x6_1.length < 5864062014805
                       · rw [if_pos c30] at H
                         have LMc30 := Aside0.mk c30
                         clear c30
                         obtain ⟨y118, hy118⟩ : ∃ y_ : List (List Int), y_ = (x6_1 ++ [y117]) := ⟨_, rfl⟩
                         replace H : (spec_l07Differences.l0 k2 l0 l1 (l0.length : Int) y118 (wrap64 (x7_1 + 1))) = some r := zH hy118
                         have Ny118 := Aside0.mk hy118
                         clear hy118
                         have H' := Aside0.mk H
                         clear H
                         try go_wp2
                         have n_ := y3 (Kd.N_drew HO_6.out) (Kd.R_drew HO_8.out) (below_drew1 HB.out)
                         clear HO_6 HO_8 HB
                         obtain ⟨HO_6, HO_8, HB⟩ := n_
                         have p114 : 0 ≤ (x7_1 : Int) := zD
                         have q114 : x7_1 < (l0.length : Int) := zD
                         obtain ⟨ad114, e114, hx114_0⟩ := Kd.at_int HR0.out x7_1 p114 q114
                         have hw114_0 := hx114_0
                         cases e114
                         replace hx114_0 := (HB.out.cell (World.block_lt_of_cell? w _ hx114_0)).trans hx114_0
                         replace p114 := eq_true p114
                         replace q114 := eq_true q114
                         have p115 : 0 ≤ (x7_1 : Int) := zD
                         have q115 : x7_1 < (l0.length : Int) := zD
                         obtain ⟨ad115, e115, hx115_0⟩ := Kd.at_int HR0.out x7_1 p115 q115
                         have hw115_0 := hx115_0
                         obtain rfl : ad114 = ad115 := (by injection e115)
                         replace hx115_0 := (HB.out.cell (World.block_lt_of_cell? w _ hx115_0)).trans hx115_0
                         replace p115 := eq_true p115
                         replace q115 := eq_true q115
                         have p116 : 0 ≤ ((rd l0 x7_1) : Int) := zD
                         have q116 : (rd l0 x7_1) < (x8_2.length : Int) := zD
                         obtain ⟨ad116, e116, hx116_0⟩ := Kd.at_int (Kd.R_reads' HO_8.out).2.2 (rd l0 x7_1) p116 q116
                         cases e116
                         replace p116 := eq_true p116
                         replace q116 := eq_true q116
                         have p29 : 0 ≤ ((rd l0 x7_1) : Int) := zD
                         have q29 : ((rd l0 x7_1) : Int) < ((x8_2.length : Int) : Int) := zD
                         obtain ⟨go29, co29, eo29, gb29, gl29, cl29, HG29⟩ := Kd.R_form HO_8.out (by omega)
                         (first | cases eo29 | (injection eo29 with ea_ en_ ec_; (first | subst ea_ | (injection ea_ with ea_; subst ea_)); subst ec_; clear en_))
                         have GB29 := Aside0.mk gb29
                         have GG29 := Aside0.mk HG29
                         clear gb29 gl29 HG29
                         (first | simp only [add_plain] at hx116_0 | skip)
                         obtain ⟨hx29_0, hf29_0⟩ := Kd.R_celln 0 HO_8.out ((rd l0 x7_1) : Int) p29 q29
                         replace p29 := eq_true p29
                         replace q29 := eq_true q29
                         have HP32 := Kd.R_putn HO_8.out ((rd l0 x7_1) : Int) (wrap64 ((rd x8_2 (rd l0 x7_1)) + (l0.length : Int)))
                         rw [← Ny117.out] at HP32
                         have HQ32 := Aside0.mk HP32
                         clear HP32
                         refine start_ (n := 16) (S := fun w' => w'.cell? (ad114.add (x7_1).toNat) = some (.int .i64 (rd l0 x7_1)) ∧ w'.cell? (ad114.add (x7_1).toNat) = some (.int .i64 (rd l0 x7_1)) ∧ w'.cell? ⟨go29, ((rd l0 x7_1)).toNat, none⟩ = some (.int .i64 (rd x8_2 (rd l0 x7_1)))) (ds := [15]) #[false,false,false,false,false,false,false,false,false,false,false,false,false,false,false,false] zk rfl rfl ⟨((HB.out.cell (World.block_lt_of_cell? w _ hw114_0)).trans hw114_0), ((HB.out.cell (World.block_lt_of_cell? w _ hw115_0)).trans hw115_0), hx116_0⟩ (fun hHeld => ?_); refine with_tabW spec_l07Differences.tab11 spec_l07Differences.bits11 (fun HT_ HW_ => ?_)
                         generalize wr.drew = w31 at HO_6 HO_8 HB GG29 HQ32 hf29_0 hx114_0 hx115_0 hx116_0 hx29_0 hHeld ⊢
                         refine pure_ (i := 0) (N := some 45) (v := ?_) (a' := ?_) #[true,false,false,false,false,false,false,false,false,false,false,false,false,false,false,false] rfl rfl (any_of HT_.out zk) (fun _ _ _ h => h) (Or.inl ⟨by rfl, ?_⟩) ?_ ?_
                         rotate_left; exact zp; rotate_left; exact zq
                         refine pure_ (i := 1) (N := some 46) (v := ?_) (a' := ?_) #[true,true,false,false,false,false,false,false,false,false,false,false,false,false,false,false] rfl rfl (any_of HT_.out zk) (fun _ _ _ h => h) (Or.inl ⟨by rfl, ?_⟩) ?_ ?_
                         rotate_left; exact zp; rotate_left; exact zq
                         refine pure_ (i := 2) (N := some 47) (v := ?_) (a' := ?_) #[true,true,true,false,false,false,false,false,false,false,false,false,false,false,false,false] rfl rfl (any_of HT_.out zk) (fun _ _ _ h => h) (Or.inl ⟨by rfl, ?_⟩) ?_ ?_
                         rotate_left; exact zp; rotate_left; exact zq
                         refine pure_ (i := 3) (N := some 48) (v := ?_) (a' := ?_) #[true,true,true,true,false,false,false,false,false,false,false,false,false,false,false,false] rfl rfl (any_of HT_.out zk) (fun _ _ _ h => h) (Or.inl ⟨by rfl, ?_⟩) ?_ ?_
                         rotate_left; exact zp; rotate_left; exact zq
                         refine pure_ (i := 5) (N := some 50) (v := ?_) (a' := ?_) #[true,true,true,true,false,true,false,false,false,false,false,false,false,false,false,false] rfl rfl (any_of HT_.out zk) (fun _ _ _ h => h) (Or.inl ⟨by rfl, ?_⟩) ?_ ?_
                         rotate_left; exact zp; rotate_left; exact zq
                         refine pure_ (i := 6) (N := some 51) (v := ?_) (a' := ?_) #[true,true,true,true,false,true,true,false,false,false,false,false,false,false,false,false] rfl rfl (any_of HT_.out zk) (fun _ _ _ h => h) (Or.inl ⟨by rfl, ?_⟩) ?_ ?_
                         rotate_left; exact zp; rotate_left; exact zq
                         refine pure_ (i := 7) (N := some 52) (v := ?_) (a' := ?_) #[true,true,true,true,false,true,true,true,false,false,false,false,false,false,false,false] rfl rfl (any_of HT_.out zk) (fun _ _ _ h => h) (Or.inl ⟨by rfl, ?_⟩) ?_ ?_
                         rotate_left; exact zp; rotate_left; exact zq
                         refine pure_ (i := 8) (N := some 53) (v := ?_) (a' := ?_) #[true,true,true,true,false,true,true,true,true,false,false,false,false,false,false,false] rfl rfl (any_of HT_.out zk) (fun _ _ _ h => h) (Or.inl ⟨by rfl, ?_⟩) ?_ ?_
                         rotate_left; exact zp; rotate_left; exact zq
                         refine pure_ (i := 12) (N := some 57) (v := ?_) (a' := ?_) #[true,true,true,true,false,true,true,true,true,false,false,false,true,false,false,false] rfl rfl (any_of HT_.out zk) (fun _ _ _ h => h) (Or.inl ⟨by rfl, ?_⟩) ?_ ?_
                         rotate_left; exact zp; rotate_left; exact zq
                         refine take_ (i := 4) (N := some 49) (v := ?_) (a' := ?_) #[true,true,true,true,true,true,true,true,true,false,false,false,true,false,false,false] rfl rfl (take_ofW HT_.out HW_.out zk) (fun _ _ _ h => h) (Or.inl ⟨by rfl, ?_⟩) hHeld ?_ ?_
                         rotate_left
                         · rintro w' ⟨s0, s1, s2⟩
                           go_simp
                           with_reducible rfl
                         rotate_left
                         · simp only [Act.put, List.setIfInBounds_toArray, List.set_cons_zero, List.set_cons_succ, i64_w, i32_w]
                           rfl
                         refine take_ (i := 9) (N := some 54) (v := ?_) (a' := ?_) #[true,true,true,true,true,true,true,true,true,true,false,false,true,false,false,false] rfl rfl (take_ofW HT_.out HW_.out zk) (fun _ _ _ h => h) (Or.inl ⟨by rfl, ?_⟩) hHeld ?_ ?_
                         rotate_left
                         · rintro w' ⟨s0, s1, s2⟩
                           go_simp
                           with_reducible rfl
                         rotate_left
                         · simp only [Act.put, List.setIfInBounds_toArray, List.set_cons_zero, List.set_cons_succ, i64_w, i32_w]
                           rfl
                         refine pure_ (i := 10) (N := some 55) (v := ?_) (a' := ?_) #[true,true,true,true,true,true,true,true,true,true,true,false,true,false,false,false] rfl rfl (any_of HT_.out zk) (fun _ _ _ h => h) (Or.inl ⟨by rfl, ?_⟩) ?_ ?_
                         rotate_left; exact zp; rotate_left; exact zq
                         refine take_ (i := 11) (N := some 56) (v := ?_) (a' := ?_) #[true,true,true,true,true,true,true,true,true,true,true,true,true,false,false,false] rfl rfl (take_ofW HT_.out HW_.out zk) (fun _ _ _ h => h) (Or.inl ⟨by rfl, ?_⟩) hHeld ?_ ?_
                         rotate_left
                         · rintro w' ⟨s0, s1, s2⟩
                           go_simp
                           with_reducible rfl
                         rotate_left
                         · simp only [Act.put, List.setIfInBounds_toArray, List.set_cons_zero, List.set_cons_succ, i64_w, i32_w]
                           rfl
                         refine pure_ (i := 13) (N := some 58) (v := ?_) (a' := ?_) #[true,true,true,true,true,true,true,true,true,true,true,true,true,true,false,false] rfl rfl (any_of HT_.out zk) (fun _ _ _ h => h) (Or.inl ⟨by rfl, ?_⟩) ?_ ?_
                         rotate_left; exact zp; rotate_left; exact zq
                         refine pure_ (i := 14) (N := some 59) (v := ?_) (a' := ?_) #[true,true,true,true,true,true,true,true,true,true,true,true,true,true,true,false] rfl rfl (any_of HT_.out zk) (fun _ _ _ h => h) (Or.inl ⟨by rfl, ?_⟩) ?_ ?_
                         rotate_left; exact zp; rotate_left; exact zq
                         refine last_ (i := 15) (N := none) #[true,true,true,true,true,true,true,true,true,true,true,true,true,true,true,true] rfl rfl (one_of HT_.out zk) (by decide) (fun K hK => ?_)
                         refine skip_ (w1 := ?_) (by rfl) rfl ?_ ?_
                         rotate_left
                         · go_simp
                           rfl
                         refine hK.out _ _ ?_
                         clear hK K
                         refine done_ (done_of HT_.out zk) ?_
                         have n0_ : Aside0 (Kd.N (Kd.slice 2 (Kd.int .i64)) 24 (w31.setCell ⟨go29, ((rd l0 x7_1) : Int).toNat, none⟩ (.int .i64 (wrap64 ((rd x8_2 (rd l0 x7_1)) + (l0.length : Int))))) w.heap.size (fun k_ => (w.heap.size ≤ k_) ∧ some k_ ≠ (.slice (some ⟨go29, 0, none⟩) x8_2.length co17 : Value).ownBlock) (.slice (some ad107) x6_1.length co15) x6_1) := ⟨by (with_reducible repeat (first | apply Kd.N_alloc | apply Kd.N_drewN | apply Kd.N_drew)); exact Kd.N_mono (Kd.N_far (p := ⟨go29, ((rd l0 x7_1) : Int).toNat, none⟩) (Kd.N_mono HO_6.out (fun k_ hk => (⟨hk, fun e_ => hk.2 (by rw [e_]; rfl)⟩ : _ ∧ k_ ≠ go29))) (fun _ hk => hk.2) (.int .i64 (wrap64 ((rd x8_2 (rd l0 x7_1)) + (l0.length : Int))))) (fun _ hk => ⟨hk.1.1, hk.1.2⟩)⟩
                         have n1_ : Aside0 (Kd.R (Kd.int .i64) 2 (w31.setCell ⟨go29, ((rd l0 x7_1) : Int).toNat, none⟩ (.int .i64 (wrap64 ((rd x8_2 (rd l0 x7_1)) + (l0.length : Int))))) w.heap.size (fun k_ => (w.heap.size ≤ k_)) (.slice (some ⟨go29, 0, none⟩) x8_2.length co17) y117) := ⟨zR HQ32.out⟩
                         have n2_ : Aside0 (Below w.heap.size w (w31.setCell ⟨go29, ((rd l0 x7_1) : Int).toNat, none⟩ (.int .i64 (wrap64 ((rd x8_2 (rd l0 x7_1)) + (l0.length : Int)))))) := ⟨zB⟩
                         (try clear HO_6)
                         (try clear HO_8)
                         (try clear HB)
                         generalize (w31.setCell ⟨go29, ((rd l0 x7_1) : Int).toNat, none⟩ (.int .i64 (wrap64 ((rd x8_2 (rd l0 x7_1)) + (l0.length : Int))))) = w33 at n0_ n1_ n2_ ⊢
                         have HO_6 := n0_
                         have HO_8 := n1_
                         have HB := n2_
                         clear n0_ n1_ n2_
                         have hl9_ := (Kd.R_reads' HO_8.out).1
                         rw [hl9_] at HO_8
                         (try simp only [hl9_])
                         (try simp only [hl9_] at HO_6)
                         try go_wp2_with (first | ((with_reducible refine gate_builtin (b := .append) (xs := #[.tmp 60, .tmp 62]) rfl ?_); at_builtin; refine Kd.N_append (Kd.slice 2 (Kd.int .i64)) (w0 := w) w.heap.size rfl (.tmp 60) (.tmp 62) 36 24 (.slice none 0 0) 24 rfl Try.underlying36 info24 rfl (by decide) (by omega) (.slice (some ad107) x6_1.length co15) x6_1 y117 [.slice (some ⟨go29, 0, none⟩) y117.length co17] (fun k_ => (w.heap.size ≤ k_)) (fun k_ => ((fun k_ => (w.heap.size ≤ k_))) k_ ∧ some k_ ≠ (.slice (some ad107) x6_1.length co15 : Value).ownBlock) rfl rfl ?aP (fun _ hk => hk) ?aF ?aO ?aB ?aS ?aL ?_; (case aP => exact (Kd.FK_slice_mk (Kd.R_reads' (Kd.R_mono (ok' := (fun k_ => ((fun k_ => (w.heap.size ≤ k_))) k_ ∧ some k_ ≠ (.slice (some ad107) x6_1.length co15 : Value).ownBlock)) (Kd.R_apart' (HO_8.out) (Kd.N_typed HO_6.out) (by decide)) (fun k_ hk => ⟨hk.1, hk.2⟩))).2.1 (Kd.R_F (Kd.R_mono (ok' := (fun k_ => ((fun k_ => (w.heap.size ≤ k_))) k_ ∧ some k_ ≠ (.slice (some ad107) x6_1.length co15 : Value).ownBlock)) (Kd.R_apart' (HO_8.out) (Kd.N_typed HO_6.out) (by decide)) (fun k_ hk => ⟨hk.1, hk.2⟩))))); (case aB => exact (zB)); (case aF => exact (fun k_ hk => (Nat.le_trans (below_size (zB)) hk))); (case aO => exact (by (with_reducible repeat (first | apply Kd.N_alloc | apply Kd.N_drewN | apply Kd.N_drew)); exact Kd.N_mono HO_6.out (fun _ hk => hk.1))); (case aS => exact (below_size (zB))); (case aL => have := LMc30.out; omega); intro v119 w34 ho hb hg hat; rw [← Ny118.out] at ho; have n_ := y2 (hb) (ho); clear HB HO_6 HO_8; obtain ⟨HB, HO120⟩ := n_; clear ho hb hg hat))
                         (try simp only [← hl8_2])
                         go_roundg k2
                         case measure => have := HK1.out; have := HK2.out; omega
                         case rel => exact ⟨(y118), (wrap64 (x7_1 + 1)), zF, H', ⟨by have := HK1.out; have := HK2.out; omega⟩, ⟨by (try simp only [hl8_2]); (with_reducible repeat (first | apply Kd.N_alloc | apply Kd.N_drewN | apply Kd.N_drew)); exact HO120.out⟩, ⟨zB⟩⟩
                       · rw [if_neg c30] at H
                         exact absurd H (by simp)
                     · rw [if_neg c28] at H
                       exact absurd H (by simp)
                   · rw [if_neg c27] at H
                     exact absurd H (by simp)
                 · rw [if_neg c26] at H
                   exact absurd H (by simp)
               · rw [if_neg c25] at H
                 exact absurd H (by simp)
       · rw [if_neg c13] at H
         exact absurd H (by simp)
     · rw [if_neg c12] at H
       exact absurd H (by simp)
   · rw [if_neg c11] at H
     have c11b0 : decide (x7_1 < (l0.length : Int)) = false := decide_eq_false c11
     clear c11
     obtain rfl := Option.some.inj H
     go_wp2
     go_ret
     exact ⟨_, zE, by (with_reducible repeat (first | apply Kd.N_alloc | apply Kd.N_drewN | apply Kd.N_drew)); exact HO_6.out, zB⟩
end Go.Proofs.Ytfmjckkgnieccaa.P
end
section
namespace Go.Proofs.Ytfmjckkgnieccaa.P
open Go.RowKit Go.Proofs.YtfmjckkgnieccaaW.PrintWords Go.Proofs.YtfmjckkgnieccaaW.PrintLast Go.Proofs.YtfmjckkgnieccaaW.PrintMore
attribute [local go_sem] max2_int min2_int max_two min_two max_three min_three max_four min_four   -- for this text's walks alone
set_option linter.unusedVariables false
set_option linter.unusedSimpArgs false
mutual
def spec_l07Squares.l0 : Nat → List (List Int) → Int → Int → Int → Option (Int)
  | 0, _, _, _, _ => none
  | k + 1, x5, x6, x13, x14 => if x14 < x13 then (if 0 ≤ x14 then (if x14 < (x5.length : Int) then (spec_l07Squares.l1 k x5 x6 x14 x13 x14 ((rd_L2 x5 x14).length : Int) 0) else (none)) else (none)) else (some x6)
def spec_l07Squares.l1 : Nat → List (List Int) → Int → Int → Int → Int → Int → Int → Option (Int)
  | 0, _, _, _, _, _, _, _ => none
  | k + 1, x5, x6, x7, x13, x14, x21, x22 => if x22 < x21 then (if 0 ≤ x7 then (if x7 < (x5.length : Int) then (if 0 ≤ x22 then (if x22 < ((rd_L2 x5 x7).length : Int) then (spec_l07Squares.l1 k x5 (wrap64 (x6 + (wrap64 ((rd (rd_L2 x5 x7) x22) * (rd (rd_L2 x5 x7) x22))))) x7 x13 x14 x21 (wrap64 (x22 + 1))) else (none)) else (none)) else (none)) else (none)) else (spec_l07Squares.l0 k x5 x6 x13 (wrap64 (x14 + 1)))
end
def spec_l07Squares.f (k : Nat) (l0 : List Int) (l1 : List Int) : Option (Int) := (spec_l07Differences.f k l0 l1).bind fun t101 => (spec_l07Squares.l0 k t101 0 (t101.length : Int) 0)
theorem spec_l07Squares.mono_l : ∀ k, (∀ y0 y1 y2 y3, LeO (spec_l07Squares.l0 k y0 y1 y2 y3) (spec_l07Squares.l0 (k + 1) y0 y1 y2 y3)) ∧ (∀ y0 y1 y2 y3 y4 y5 y6, LeO (spec_l07Squares.l1 k y0 y1 y2 y3 y4 y5 y6) (spec_l07Squares.l1 (k + 1) y0 y1 y2 y3 y4 y5 y6))
  | 0 => ⟨fun _ _ _ _ r h => by simp [spec_l07Squares.l0] at h, fun _ _ _ _ _ _ _ r h => by simp [spec_l07Squares.l1] at h⟩
  | k + 1 => by
    obtain ⟨ih0, ih1⟩ := spec_l07Squares.mono_l k
    refine ⟨?_, ?_⟩ <;> intros <;> (first | unfold spec_l07Squares.l0 | unfold spec_l07Squares.l1) <;> repeat' first | (with_reducible exact ih0 _ _ _ _) | (with_reducible exact ih1 _ _ _ _ _ _ _) | (with_reducible exact spec_l07Differences.mono _ _ _) | (with_reducible exact LeO.refl _) | (with_reducible exact LeO.none _) | (with_reducible refine LeO.ite ?_ ?_) | (with_reducible refine LeO.bind ?_ (fun _ => ?_)) | exact ih0 _ _ _ _ | exact ih1 _ _ _ _ _ _ _ | exact spec_l07Differences.mono _ _ _ | exact LeO.none _ | refine LeO.ite ?_ ?_ | refine LeO.bind ?_ (fun _ => ?_)
theorem spec_l07Squares.mono : ∀ a0 a1 k, LeO (spec_l07Squares.f k a0 a1) (spec_l07Squares.f (k + 1) a0 a1) := by
  intro a0 a1 k
  obtain ⟨ih0, ih1⟩ := spec_l07Squares.mono_l k
  unfold spec_l07Squares.f
  repeat' first | (with_reducible exact ih0 _ _ _ _) | (with_reducible exact ih1 _ _ _ _ _ _ _) | (with_reducible exact spec_l07Differences.mono _ _ _) | (with_reducible exact LeO.refl _) | (with_reducible exact LeO.none _) | (with_reducible refine LeO.ite ?_ ?_) | (with_reducible refine LeO.bind ?_ (fun _ => ?_)) | exact ih0 _ _ _ _ | exact ih1 _ _ _ _ _ _ _ | exact spec_l07Differences.mono _ _ _ | exact LeO.none _ | refine LeO.ite ?_ ?_ | refine LeO.bind ?_ (fun _ => ?_)
set_option maxHeartbeats 8000000 in
set_option maxRecDepth 100000 in
theorem spec_l07Squares.calls (k : Nat) (A0 : Option Addr) (c0 : Nat) (l0 : List Int) (A1 : Option Addr) (c1 : Nat) (l1 : List Int) (r : Int) (w : World) (hr0 : Kd.C (Kd.int .i64) w A0 l0.length l0) (hc0 : l0.length ≤ c0) (hr1 : Kd.C (Kd.int .i64) w A1 l1.length l1) (hc1 : l1.length ≤ c1) (h : spec_l07Squares.f k l0 l1 = some r) :
    Calls Try.prog 36 #[.slice A0 l0.length c0, .slice A1 l1.length c1] w fun e w' => e = .returned (.int .i64 r) ∧ Below w.heap.size w w' := by
 have HR0 := Aside0.mk hr0
 have HC0 := Aside0.mk hc0
 clear hr0 hc0
 have HR1 := Aside0.mk hr1
 have HC1 := Aside0.mk hc1
 clear hr1 hc1
 have HB := Aside0.mk (Below.refl w.heap.size w)
 have H : ((spec_l07Differences.f k l0 l1).bind fun t101 => (spec_l07Squares.l0 k t101 0 (t101.length : Int) 0)) = some r := h
 clear h
 replace H := Option.bind_eq_some_iff.mp H
 obtain ⟨t101, A30, H⟩ := H
 replace H : (spec_l07Squares.l0 k t101 0 (t101.length : Int) 0) = some r := H
 have A3 := Aside0.mk A30
 clear A30
 have H' := Aside0.mk H
 clear H
 go_enter Try.func36, Try.ntmps36
 go_wp2_with (first | (go_at_call 63; (with_reducible refine (spec_l07Differences.calls k _ _ l0 _ _ l1 t101 _ ?side1 ?side2 ?side3 ?side4 A3.out).mono ?_); (case side1 => exact zC HR0.out); (case side2 => exact HC0.out); (case side3 => exact zC HR1.out); (case side4 => exact HC1.out); rintro e w4 ⟨v102, rfl, ho0, hb⟩; have n_ := y2 (Kd.N_lower (Kd.N_mono (ok' := fun k_ => True) ho0 (fun k_ hk_ => trivial)) (below_size (zB))) (below_step (zB) hb); clear HB; obtain ⟨HO103, HB⟩ := n_; (try clear hb); (try clear hb2); (try clear hk); (try clear hi); (try clear ho0); obtain ⟨Ao5, co5, eo5⟩ := Kd.N_slice HO103.out; subst eo5))
 repeat (go_quiet (first | (go_at_call 63; (with_reducible refine (spec_l07Differences.calls k _ _ l0 _ _ l1 t101 _ ?side1 ?side2 ?side3 ?side4 A3.out).mono ?_); (case side1 => exact zC HR0.out); (case side2 => exact HC0.out); (case side3 => exact zC HR1.out); (case side4 => exact HC1.out); rintro e w4 ⟨v102, rfl, ho0, hb⟩; have n_ := y2 (Kd.N_lower (Kd.N_mono (ok' := fun k_ => True) ho0 (fun k_ hk_ => trivial)) (below_size (zB))) (below_step (zB) hb); clear HB; obtain ⟨HO103, HB⟩ := n_; (try clear hb); (try clear hb2); (try clear hk); (try clear hi); (try clear ho0); obtain ⟨Ao5, co5, eo5⟩ := Kd.N_slice HO103.out; subst eo5)); try go_wp2_with (first | (go_at_call 63; (with_reducible refine (spec_l07Differences.calls k _ _ l0 _ _ l1 t101 _ ?side1 ?side2 ?side3 ?side4 A3.out).mono ?_); (case side1 => exact zC HR0.out); (case side2 => exact HC0.out); (case side3 => exact zC HR1.out); (case side4 => exact HC1.out); rintro e w4 ⟨v102, rfl, ho0, hb⟩; have n_ := y2 (Kd.N_lower (Kd.N_mono (ok' := fun k_ => True) ho0 (fun k_ hk_ => trivial)) (below_size (zB))) (below_step (zB) hb); clear HB; obtain ⟨HO103, HB⟩ := n_; (try clear hb); (try clear hb2); (try clear hk); (try clear hi); (try clear ho0); obtain ⟨Ao5, co5, eo5⟩ := Kd.N_slice HO103.out; subst eo5)))
 go_loopg [6, 14] k (fun kq v6 v14 w' => ∃ (x6_1 : Int) (x14_1 : Int), v6 = .int .i64 x6_1 ∧ v14 = .int .i64 x14_1 ∧ Aside0 (spec_l07Squares.l0 kq t101 x6_1 (t101.length : Int) x14_1 = some r) ∧ Aside0 (kq ≤ k) ∧ Aside0 (Kd.N (Kd.slice 2 (Kd.int .i64)) 24 w' w.heap.size (fun _ => True) (.slice Ao5 t101.length co5) t101) ∧ Aside0 (Below w.heap.size w w'))
 case atStart => exact ⟨(0), (0), zF, zF, H', ⟨Nat.le_refl _⟩, ⟨by (with_reducible repeat (first | apply Kd.N_alloc | apply Kd.N_drewN | apply Kd.N_drew)); exact HO103.out⟩, ⟨zB⟩⟩
 clear H'
 obtain ⟨x6_1, x14_1, rfl, rfl, HA, HK1, HO_5, HB⟩ := hrel
 cases gk with
 | zero => exact absurd HA.out (by simp [spec_l07Squares.l0])
 | succ k1 =>
   have H := HA.out
   clear HA
   simp only [spec_l07Squares.l0] at H
   by_cases c6 : x14_1 < (t101.length : Int)
   · rw [if_pos c6] at H
     have c6b0 : decide (x14_1 < (t101.length : Int)) = true := decide_eq_true c6
     clear c6
     by_cases c7 : 0 ≤ x14_1
     · rw [if_pos c7] at H
       have c7b0 : decide (0 ≤ x14_1) = true := decide_eq_true c7
       clear c7
       by_cases c8 : x14_1 < (t101.length : Int)
       · rw [if_pos c8] at H
         have c8b0 : decide (x14_1 < (t101.length : Int)) = true := decide_eq_true c8
         clear c8
         have H' := Aside0.mk H
         clear H
         have p104 : 0 ≤ (x14_1 : Int) := zD
         have q104 : x14_1 < (t101.length : Int) := zD
         obtain ⟨ad104, A104_0, c104_0, e104, hx104_0, hl104_0, hi104_0⟩ := at_L2 (Kd.N_reads' HO_5.out).2.2 x14_1 p104 q104
         cases e104
         obtain ⟨ce104, hce104, hMe104, hcc104⟩ := Kd.N_get HO_5.out [] x14_1 p104 (by first | exact q104 | exact zD | (have e_ := (Kd.N_reads' HO_5.out).1; omega))
         obtain ⟨ua104_0, uc104_0, rfl, ul104_0, ge104_0⟩ := Kd.FK_slice_open hMe104
         have hv104_0 := hcc104 0 _ rfl
         rw [Nat.add_zero, show ((Kd.slice 2 (Kd.int .i64))).sz = 1 from rfl, Nat.mul_one] at hv104_0
         replace hv104_0 := Option.some.inj (hv104_0.symm.trans hx104_0)
         injection hv104_0 with hva_ hvn_ hvc_
         rw [hva_] at ge104_0
         rw [hvc_] at ul104_0
         have HL104_0 := Aside0.mk (show Kd.V (Kd.int .i64) 2 _ w.heap.size _ _ (rd_L2 t101 x14_1) from Kd.V_mk ul104_0 ge104_0)
         clear hva_ hvn_ hvc_ ge104_0 ul104_0
         clear hcc104 hce104
         have HR104_0 := Aside0.mk hi104_0
         have HC104_0 := Aside0.mk hl104_0
         clear hi104_0 hl104_0
         replace p104 := eq_true p104
         replace q104 := eq_true q104
         go_wp2
         repeat (go_quiet (fail); try go_wp2)
         go_loopg [6, 22] k1 (fun kq v6 v22 w' => ∃ (x6_2 : Int) (x22_2 : Int), v6 = .int .i64 x6_2 ∧ v22 = .int .i64 x22_2 ∧ Aside0 (spec_l07Squares.l1 kq t101 x6_2 x14_1 (t101.length : Int) x14_1 ((rd_L2 t101 x14_1).length : Int) x22_2 = some r) ∧ Aside0 (kq ≤ k1) ∧ Aside0 (Kd.N (Kd.slice 2 (Kd.int .i64)) 24 w' w.heap.size (fun _ => True) (.slice (some ad104) t101.length co5) t101) ∧ Aside0 (Kd.C (Kd.int .i64) w' A104_0 (rd_L2 t101 x14_1).length (rd_L2 t101 x14_1)) ∧ Aside0 (Below w.heap.size w w'))
         case atStart => exact ⟨(x6_1), (0), zF, zF, H', ⟨Nat.le_refl _⟩, ⟨by (with_reducible repeat (first | apply Kd.N_alloc | apply Kd.N_drewN | apply Kd.N_drew)); exact HO_5.out⟩, ⟨by repeat (first | (with_reducible exact HR104_0.out) | (with_reducible refine Kd.C_alloc ?_ _) | (with_reducible refine Kd.C_drewN ?_ _) | (with_reducible refine Kd.C_drew ?_) | exact HR104_0.out)⟩, ⟨zB⟩⟩
         case round =>
           clear H'
           try clear c6
           try clear c6b0
           try clear c7
           try clear c7b0
           try clear c8
           try clear c8b0
           try clear hx104_0
           try clear p104
           try clear q104
           obtain ⟨x6_2, x22_2, rfl, rfl, HA, HK2, HO_5, HR104_0, HB⟩ := hrel
           cases gk with
           | zero => exact absurd HA.out (by simp [spec_l07Squares.l1])
           | succ k2 =>
             have H := HA.out
             clear HA
             simp only [spec_l07Squares.l1] at H
             by_cases c9 : x22_2 < ((rd_L2 t101 x14_1).length : Int)
             · rw [if_pos c9] at H
               have c9b0 : decide (x22_2 < ((rd_L2 t101 x14_1).length : Int)) = true := decide_eq_true c9
               clear c9
               by_cases c10 : 0 ≤ x14_1
               · rw [if_pos c10] at H
                 have c10b0 : decide (0 ≤ x14_1) = true := decide_eq_true c10
                 clear c10
                 by_cases c11 : x14_1 < (t101.length : Int)
                 · rw [if_pos c11] at H
                   have c11b0 : decide (x14_1 < (t101.length : Int)) = true := decide_eq_true c11
                   clear c11
                   by_cases c12 : 0 ≤ x22_2
                   · rw [if_pos c12] at H
                     have c12b0 : decide (0 ≤ x22_2) = true := decide_eq_true c12
                     clear c12
                     by_cases c13 : x22_2 < ((rd_L2 t101 x14_1).length : Int)
                     · rw [if_pos c13] at H
                       have c13b0 : decide (x22_2 < ((rd_L2 t101 x14_1).length : Int)) = true := decide_eq_true c13
                       clear c13
                       have H' := Aside0.mk H
                       clear H
                       have p105 : 0 ≤ (x14_1 : Int) := zD
                       have q105 : x14_1 < (t101.length : Int) := zD
                       obtain ⟨ad105, A105_0, c105_0, e105, hx105_0, hl105_0, hi105_0⟩ := at_L2 (Kd.N_reads' HO_5.out).2.2 x14_1 p105 q105
                       obtain rfl : ad104 = ad105 := (by injection e105)
                       obtain ⟨ce105, hce105, hMe105, hcc105⟩ := Kd.N_get HO_5.out [] x14_1 p105 (by first | exact q105 | exact zD | (have e_ := (Kd.N_reads' HO_5.out).1; omega))
                       obtain ⟨ua105_0, uc105_0, rfl, ul105_0, ge105_0⟩ := Kd.FK_slice_open hMe105
                       have hv105_0 := hcc105 0 _ rfl
                       rw [Nat.add_zero, show ((Kd.slice 2 (Kd.int .i64))).sz = 1 from rfl, Nat.mul_one] at hv105_0
                       replace hv105_0 := Option.some.inj (hv105_0.symm.trans hx105_0)
                       injection hv105_0 with hva_ hvn_ hvc_
                       rw [hva_] at ge105_0
                       rw [hvc_] at ul105_0
                       have HL105_0 := Aside0.mk (show Kd.V (Kd.int .i64) 2 _ w.heap.size _ _ (rd_L2 t101 x14_1) from Kd.V_mk ul105_0 ge105_0)
                       clear hva_ hvn_ hvc_ ge105_0 ul105_0
                       clear hcc105 hce105
                       have HR105_0 := Aside0.mk hi105_0
                       have HC105_0 := Aside0.mk hl105_0
                       clear hi105_0 hl105_0
                       replace p105 := eq_true p105
                       replace q105 := eq_true q105
                       have p106 : 0 ≤ (x22_2 : Int) := zD
                       have q106 : x22_2 < ((rd_L2 t101 x14_1).length : Int) := zD
                       obtain ⟨ad106, e106, hx106_0⟩ := Kd.at_int (by repeat (first | (with_reducible exact HR105_0.out) | (with_reducible refine Kd.C_alloc ?_ _) | (with_reducible refine Kd.C_drewN ?_ _) | (with_reducible refine Kd.C_drew ?_) | exact HR105_0.out)) x22_2 p106 q106
                       cases e106
                       replace p106 := eq_true p106
                       replace q106 := eq_true q106
                       have p107 : 0 ≤ (x14_1 : Int) := zD
                       have q107 : x14_1 < (t101.length : Int) := zD
                       obtain ⟨ad107, A107_0, c107_0, e107, hx107_0, hl107_0, hi107_0⟩ := at_L2 (Kd.N_reads' HO_5.out).2.2 x14_1 p107 q107
                       obtain rfl : ad104 = ad107 := (by injection e107)
                       obtain ⟨ce107, hce107, hMe107, hcc107⟩ := Kd.N_get HO_5.out [] x14_1 p107 (by first | exact q107 | exact zD | (have e_ := (Kd.N_reads' HO_5.out).1; omega))
                       obtain ⟨ua107_0, uc107_0, rfl, ul107_0, ge107_0⟩ := Kd.FK_slice_open hMe107
                       have hv107_0 := hcc107 0 _ rfl
                       rw [Nat.add_zero, show ((Kd.slice 2 (Kd.int .i64))).sz = 1 from rfl, Nat.mul_one] at hv107_0
                       replace hv107_0 := Option.some.inj (hv107_0.symm.trans hx107_0)
                       injection hv107_0 with hva_ hvn_ hvc_
                       rw [hva_] at ge107_0
                       rw [hvc_] at ul107_0
                       have HL107_0 := Aside0.mk (show Kd.V (Kd.int .i64) 2 _ w.heap.size _ _ (rd_L2 t101 x14_1) from Kd.V_mk ul107_0 ge107_0)
                       clear hva_ hvn_ hvc_ ge107_0 ul107_0
                       clear hcc107 hce107
                       have HR107_0 := Aside0.mk hi107_0
                       have HC107_0 := Aside0.mk hl107_0
                       clear hi107_0 hl107_0
                       replace p107 := eq_true p107
                       replace q107 := eq_true q107
                       have ea_ := Option.some.inj (hx105_0.symm.trans hx107_0)
                       injection ea_ with ea_ en_ ec_
                       subst ea_
                       subst ec_
                       clear en_
                       have p108 : 0 ≤ (x22_2 : Int) := zD
                       have q108 : x22_2 < ((rd_L2 t101 x14_1).length : Int) := zD
                       obtain ⟨ad108, e108, hx108_0⟩ := Kd.at_int (by repeat (first | (with_reducible exact HR107_0.out) | (with_reducible refine Kd.C_alloc ?_ _) | (with_reducible refine Kd.C_drewN ?_ _) | (with_reducible refine Kd.C_drew ?_) | exact HR107_0.out)) x22_2 p108 q108
                       cases e108
                       replace p108 := eq_true p108
                       replace q108 := eq_true q108
                       go_wp2
                       repeat (go_quiet (fail); try go_wp2)
                       go_roundg k2
                       case measure => have := HK1.out; have := HK2.out; omega
                       case rel => exact ⟨(wrap64 (x6_2 + (wrap64 ((rd (rd_L2 t101 x14_1) x22_2) * (rd (rd_L2 t101 x14_1) x22_2))))), (wrap64 (x22_2 + 1)), zF, zF, H', ⟨by have := HK1.out; have := HK2.out; omega⟩, ⟨by (with_reducible repeat (first | apply Kd.N_alloc | apply Kd.N_drewN | apply Kd.N_drew)); exact HO_5.out⟩, ⟨by repeat (first | (with_reducible exact HR104_0.out) | (with_reducible refine Kd.C_alloc ?_ _) | (with_reducible refine Kd.C_drewN ?_ _) | (with_reducible refine Kd.C_drew ?_) | exact HR104_0.out)⟩, ⟨zB⟩⟩
                     · rw [if_neg c13] at H
                       exact absurd H (by simp)
                   · rw [if_neg c12] at H
                     exact absurd H (by simp)
                 · rw [if_neg c11] at H
                   exact absurd H (by simp)
               · rw [if_neg c10] at H
                 exact absurd H (by simp)
             · rw [if_neg c9] at H
               have c9b0 : decide (x22_2 < ((rd_L2 t101 x14_1).length : Int)) = false := decide_eq_false c9
               clear c9
               have H' := Aside0.mk H
               clear H
               go_wp2
               repeat (go_quiet (fail); try go_wp2)
               go_roundg k2
               case measure => have := HK1.out; have := HK2.out; omega
               case rel => exact ⟨(x6_2), (wrap64 (x14_1 + 1)), zF, zF, H', ⟨by have := HK1.out; have := HK2.out; omega⟩, ⟨by (with_reducible repeat (first | apply Kd.N_alloc | apply Kd.N_drewN | apply Kd.N_drew)); exact HO_5.out⟩, ⟨zB⟩⟩
       · rw [if_neg c8] at H
         exact absurd H (by simp)
     · rw [if_neg c7] at H
       exact absurd H (by simp)
   · rw [if_neg c6] at H
     have c6b0 : decide (x14_1 < (t101.length : Int)) = false := decide_eq_false c6
     clear c6
     obtain rfl := Option.some.inj H
     go_wp2
     repeat (go_quiet (fail); try go_wp2)
     go_ret
     exact ⟨zE, zB⟩
end Go.Proofs.Ytfmjckkgnieccaa.P
end
section
namespace Go.Proofs.Ytfmjckkgnieccaa.P
open Go.RowKit Go.Proofs.YtfmjckkgnieccaaW.PrintWords Go.Proofs.YtfmjckkgnieccaaW.PrintLast Go.Proofs.YtfmjckkgnieccaaW.PrintMore
attribute [local go_sem] max2_int min2_int max_two min_two max_three min_three max_four min_four   -- for this text's walks alone
set_option linter.unusedVariables false
set_option linter.unusedSimpArgs false
mutual
def spec_l07Best.l0 : Nat → List Int → List Int → Int → Int → Int → Int → Option (Int × Int × Bool)
  | 0, _, _, _, _, _, _ => none
  | k + 1, x0, x1, x7, x8, x9, x10 => if x10 < (x0.length : Int) then (spec_l07Best.l1 k x0 x1 x7 x8 x9 x10 (wrap64 (x10 + 1))) else (some (x8, x9, decide (x8 ≥ 0)))
def spec_l07Best.l1 : Nat → List Int → List Int → Int → Int → Int → Int → Int → Option (Int × Int × Bool)
  | 0, _, _, _, _, _, _, _ => none
  | k + 1, x0, x1, x7, x8, x9, x10, x11 => if x11 < (x0.length : Int) then (if 0 ≤ x10 then (if x10 < (x0.length : Int) then (if 0 ≤ x11 then (if (rd x0 x10) = (rd x0 x11) then (spec_l07Best.l1 k x0 x1 x7 x8 x9 x10 (wrap64 (x11 + 1))) else ((spec_l07Exchanged.f x0 x10 x11).bind fun t104 => ((spec_l07Squares.f k t104 x1).bind fun t107 => (if t107 < x7 then (spec_l07Best.l1 k x0 x1 t107 x10 x11 x10 (wrap64 (x11 + 1))) else (spec_l07Best.l1 k x0 x1 x7 x8 x9 x10 (wrap64 (x11 + 1))))))) else (none)) else (none)) else (none)) else (spec_l07Best.l0 k x0 x1 x7 x8 x9 (wrap64 (x10 + 1)))
end
def spec_l07Best.f (k : Nat) (l0 : List Int) (l1 : List Int) : Option (Int × Int × Bool) := (spec_l07Squares.f k l0 l1).bind fun t101 => (spec_l07Best.l0 k l0 l1 t101 (-1) (-1) 0)
theorem spec_l07Best.mono_l : ∀ k, (∀ y0 y1 y2 y3 y4 y5, LeO (spec_l07Best.l0 k y0 y1 y2 y3 y4 y5) (spec_l07Best.l0 (k + 1) y0 y1 y2 y3 y4 y5)) ∧ (∀ y0 y1 y2 y3 y4 y5 y6, LeO (spec_l07Best.l1 k y0 y1 y2 y3 y4 y5 y6) (spec_l07Best.l1 (k + 1) y0 y1 y2 y3 y4 y5 y6))
  | 0 => ⟨fun _ _ _ _ _ _ r h => by simp [spec_l07Best.l0] at h, fun _ _ _ _ _ _ _ r h => by simp [spec_l07Best.l1] at h⟩
  | k + 1 => by
    obtain ⟨ih0, ih1⟩ := spec_l07Best.mono_l k
    refine ⟨?_, ?_⟩ <;> intros <;> (first | unfold spec_l07Best.l0 | unfold spec_l07Best.l1) <;> repeat' first | (with_reducible exact ih0 _ _ _ _ _ _) | (with_reducible exact ih1 _ _ _ _ _ _ _) | (with_reducible exact spec_l07Squares.mono _ _ _) | (with_reducible exact LeO.refl _) | (with_reducible exact LeO.none _) | (with_reducible refine LeO.ite ?_ ?_) | (with_reducible refine LeO.bind ?_ (fun _ => ?_)) | exact ih0 _ _ _ _ _ _ | exact ih1 _ _ _ _ _ _ _ | exact spec_l07Squares.mono _ _ _ | exact LeO.none _ | refine LeO.ite ?_ ?_ | refine LeO.bind ?_ (fun _ => ?_)
theorem spec_l07Best.mono : ∀ a0 a1 k, LeO (spec_l07Best.f k a0 a1) (spec_l07Best.f (k + 1) a0 a1) := by
  intro a0 a1 k
  obtain ⟨ih0, ih1⟩ := spec_l07Best.mono_l k
  unfold spec_l07Best.f
  repeat' first | (with_reducible exact ih0 _ _ _ _ _ _) | (with_reducible exact ih1 _ _ _ _ _ _ _) | (with_reducible exact spec_l07Squares.mono _ _ _) | (with_reducible exact LeO.refl _) | (with_reducible exact LeO.none _) | (with_reducible refine LeO.ite ?_ ?_) | (with_reducible refine LeO.bind ?_ (fun _ => ?_)) | exact ih0 _ _ _ _ _ _ | exact ih1 _ _ _ _ _ _ _ | exact spec_l07Squares.mono _ _ _ | exact LeO.none _ | refine LeO.ite ?_ ?_ | refine LeO.bind ?_ (fun _ => ?_)
set_option maxHeartbeats 8000000 in
set_option maxRecDepth 100000 in
theorem spec_l07Best.calls (k : Nat) (A0 : Option Addr) (c0 : Nat) (l0 : List Int) (A1 : Option Addr) (c1 : Nat) (l1 : List Int) (r1 : Int) (r2 : Int) (r3 : Bool) (w : World) (hr0 : Kd.C (Kd.int .i64) w A0 l0.length l0) (hc0 : l0.length ≤ c0) (hr1 : Kd.C (Kd.int .i64) w A1 l1.length l1) (hc1 : l1.length ≤ c1) (h : spec_l07Best.f k l0 l1 = some (r1, r2, r3)) :
    Calls Try.prog 33 #[.slice A0 l0.length c0, .slice A1 l1.length c1] w fun e w' => e = .returned (.tuple #[.int .i64 r1, .int .i64 r2, .bool r3]) ∧ Below w.heap.size w w' := by
 have HR0 := Aside0.mk hr0
 have HC0 := Aside0.mk hc0
 clear hr0 hc0
 have HR1 := Aside0.mk hr1
 have HC1 := Aside0.mk hc1
 clear hr1 hc1
 have HB := Aside0.mk (Below.refl w.heap.size w)
 have H : ((spec_l07Squares.f k l0 l1).bind fun t101 => (spec_l07Best.l0 k l0 l1 t101 (-1) (-1) 0)) = some (r1, r2, r3) := h
 clear h
 replace H := Option.bind_eq_some_iff.mp H
 obtain ⟨t101, A30, H⟩ := H
 replace H : (spec_l07Best.l0 k l0 l1 t101 (-1) (-1) 0) = some (r1, r2, r3) := H
 have A3 := Aside0.mk A30
 clear A30
 have H' := Aside0.mk H
 clear H
 go_enter Try.func33, Try.ntmps33
 go_wp2_with (first | (go_at_call 36; (with_reducible refine (spec_l07Squares.calls k _ _ l0 _ _ l1 t101 _ ?side1 ?side2 ?side3 ?side4 A3.out).mono ?_); (case side1 => exact zC HR0.out); (case side2 => exact HC0.out); (case side3 => exact zC HR1.out); (case side4 => exact HC1.out); rintro e w4 ⟨rfl, hb⟩; replace HB := Aside0.mk (below_step (zB) hb); (try clear hb); (try clear hb2); (try clear hk); (try clear hi)))
 repeat (go_quiet (first | (go_at_call 36; (with_reducible refine (spec_l07Squares.calls k _ _ l0 _ _ l1 t101 _ ?side1 ?side2 ?side3 ?side4 A3.out).mono ?_); (case side1 => exact zC HR0.out); (case side2 => exact HC0.out); (case side3 => exact zC HR1.out); (case side4 => exact HC1.out); rintro e w4 ⟨rfl, hb⟩; replace HB := Aside0.mk (below_step (zB) hb); (try clear hb); (try clear hb2); (try clear hk); (try clear hi))); try go_wp2_with (first | (go_at_call 36; (with_reducible refine (spec_l07Squares.calls k _ _ l0 _ _ l1 t101 _ ?side1 ?side2 ?side3 ?side4 A3.out).mono ?_); (case side1 => exact zC HR0.out); (case side2 => exact HC0.out); (case side3 => exact zC HR1.out); (case side4 => exact HC1.out); rintro e w4 ⟨rfl, hb⟩; replace HB := Aside0.mk (below_step (zB) hb); (try clear hb); (try clear hb2); (try clear hk); (try clear hi))))
 go_loopg [7, 8, 9, 10] k (fun kq v7 v8 v9 v10 w' => ∃ (x7_1 : Int) (x8_1 : Int) (x9_1 : Int) (x10_1 : Int), v7 = .int .i64 x7_1 ∧ v8 = .int .i64 x8_1 ∧ v9 = .int .i64 x9_1 ∧ v10 = .int .i64 x10_1 ∧ Aside0 (spec_l07Best.l0 kq l0 l1 x7_1 x8_1 x9_1 x10_1 = some (r1, r2, r3)) ∧ Aside0 (kq ≤ k) ∧ Aside0 (Below w.heap.size w w'))
 case atStart => exact ⟨(t101), ((-1)), ((-1)), (0), zF, zF, zF, zF, H', ⟨Nat.le_refl _⟩, ⟨zB⟩⟩
 clear H'
 obtain ⟨x7_1, x8_1, x9_1, x10_1, rfl, rfl, rfl, rfl, HA, HK1, HB⟩ := hrel
 cases gk with
 | zero => exact absurd HA.out (by simp [spec_l07Best.l0])
 | succ k1 =>
   have H := HA.out
   clear HA
   simp only [spec_l07Best.l0] at H
   by_cases c5 : x10_1 < (l0.length : Int)
   · rw [if_pos c5] at H
     have c5b0 : decide (x10_1 < (l0.length : Int)) = true := decide_eq_true c5
     clear c5
     have H' := Aside0.mk H
     clear H
     go_wp2
     repeat (go_quiet (fail); try go_wp2)
     go_loopg [7, 8, 9, 11] k1 (fun kq v7 v8 v9 v11 w' => ∃ (x7_2 : Int) (x8_2 : Int) (x9_2 : Int) (x11_2 : Int), v7 = .int .i64 x7_2 ∧ v8 = .int .i64 x8_2 ∧ v9 = .int .i64 x9_2 ∧ v11 = .int .i64 x11_2 ∧ Aside0 (spec_l07Best.l1 kq l0 l1 x7_2 x8_2 x9_2 x10_1 x11_2 = some (r1, r2, r3)) ∧ Aside0 (kq ≤ k1) ∧ Aside0 (Below w.heap.size w w'))
     case atStart => exact ⟨(x7_1), (x8_1), (x9_1), (wrap64 (x10_1 + 1)), zF, zF, zF, zF, H', ⟨Nat.le_refl _⟩, ⟨zB⟩⟩
     case round =>
       clear H'
       try clear c5
       try clear c5b0
       obtain ⟨x7_2, x8_2, x9_2, x11_2, rfl, rfl, rfl, rfl, HA, HK2, HB⟩ := hrel
       cases gk with
       | zero => exact absurd HA.out (by simp [spec_l07Best.l1])
       | succ k2 =>
         have H := HA.out
         clear HA
         simp only [spec_l07Best.l1] at H
         by_cases c6 : x11_2 < (l0.length : Int)
         · rw [if_pos c6] at H
           have c6b0 : decide (x11_2 < (l0.length : Int)) = true := decide_eq_true c6
           clear c6
           by_cases c7 : 0 ≤ x10_1
           · rw [if_pos c7] at H
             have c7b0 : decide (0 ≤ x10_1) = true := decide_eq_true c7
             clear c7
             by_cases c8 : x10_1 < (l0.length : Int)
             · rw [if_pos c8] at H
               have c8b0 : decide (x10_1 < (l0.length : Int)) = true := decide_eq_true c8
               clear c8
               by_cases c9 : 0 ≤ x11_2
               · rw [if_pos c9] at H
                 have c9b0 : decide (0 ≤ x11_2) = true := decide_eq_true c9
                 clear c9
                 by_cases c10 : (rd l0 x10_1) = (rd l0 x11_2)
                 · rw [if_pos c10] at H
                   have c10b0 : ((rd l0 x10_1) == (rd l0 x11_2)) = true := beq_iff_eq.mpr c10
                   have c10b1 : ((rd l0 x10_1) != (rd l0 x11_2)) = false := bne_eq_false_iff_eq.mpr c10
                   clear c10
                   have H' := Aside0.mk H
                   clear H
                   have p102 : 0 ≤ (x10_1 : Int) := zD
                   have q102 : x10_1 < (l0.length : Int) := zD
                   obtain ⟨ad102, e102, hx102_0⟩ := Kd.at_int HR0.out x10_1 p102 q102
                   cases e102
                   replace hx102_0 := (HB.out.cell (World.block_lt_of_cell? w _ hx102_0)).trans hx102_0
                   replace p102 := eq_true p102
                   replace q102 := eq_true q102
                   have p103 : 0 ≤ (x11_2 : Int) := zD
                   have q103 : x11_2 < (l0.length : Int) := zD
                   obtain ⟨ad103, e103, hx103_0⟩ := Kd.at_int HR0.out x11_2 p103 q103
                   obtain rfl : ad102 = ad103 := (by injection e103)
                   replace hx103_0 := (HB.out.cell (World.block_lt_of_cell? w _ hx103_0)).trans hx103_0
                   replace p103 := eq_true p103
                   replace q103 := eq_true q103
                   go_wp2
                   repeat (go_quiet (fail); try go_wp2)
                   go_roundg k2
                   case measure => have := HK1.out; have := HK2.out; omega
                   case rel => exact ⟨(x7_2), (x8_2), (x9_2), (wrap64 (x11_2 + 1)), zF, zF, zF, zF, H', ⟨by have := HK1.out; have := HK2.out; omega⟩, ⟨zB⟩⟩
                 · rw [if_neg c10] at H
                   have c10b0 : ((rd l0 x10_1) == (rd l0 x11_2)) = false := beq_eq_false_iff_ne.mpr c10
                   have c10b1 : ((rd l0 x10_1) != (rd l0 x11_2)) = true := bne_iff_ne.mpr c10
                   replace H := Option.bind_eq_some_iff.mp H
                   obtain ⟨t104, A110, H⟩ := H
                   replace H : ((spec_l07Squares.f k2 t104 l1).bind fun t107 => (if t107 < x7_2 then (spec_l07Best.l1 k2 l0 l1 t107 x10_1 x11_2 x10_1 (wrap64 (x11_2 + 1))) else (spec_l07Best.l1 k2 l0 l1 x7_2 x8_2 x9_2 x10_1 (wrap64 (x11_2 + 1))))) = some (r1, r2, r3) := H
                   have A11 := Aside0.mk A110
                   clear A110
                   replace H := Option.bind_eq_some_iff.mp H
                   obtain ⟨t107, A120, H⟩ := H
                   replace H : (if t107 < x7_2 then (spec_l07Best.l1 k2 l0 l1 t107 x10_1 x11_2 x10_1 (wrap64 (x11_2 + 1))) else (spec_l07Best.l1 k2 l0 l1 x7_2 x8_2 x9_2 x10_1 (wrap64 (x11_2 + 1)))) = some (r1, r2, r3) := H
                   have A12 := Aside0.mk A120
                   clear A120
                   by_cases c13 : t107 < x7_2
                   · rw [if_pos c13] at H
                     have c13b0 : decide (t107 < x7_2) = true := decide_eq_true c13
                     clear c13
                     have H' := Aside0.mk H
                     clear H
                     have p102 : 0 ≤ (x10_1 : Int) := zD
                     have q102 : x10_1 < (l0.length : Int) := zD
                     obtain ⟨ad102, e102, hx102_0⟩ := Kd.at_int HR0.out x10_1 p102 q102
                     cases e102
                     replace hx102_0 := (HB.out.cell (World.block_lt_of_cell? w _ hx102_0)).trans hx102_0
                     replace p102 := eq_true p102
                     replace q102 := eq_true q102
                     have p103 : 0 ≤ (x11_2 : Int) := zD
                     have q103 : x11_2 < (l0.length : Int) := zD
                     obtain ⟨ad103, e103, hx103_0⟩ := Kd.at_int HR0.out x11_2 p103 q103
                     obtain rfl : ad102 = ad103 := (by injection e103)
                     replace hx103_0 := (HB.out.cell (World.block_lt_of_cell? w _ hx103_0)).trans hx103_0
                     replace p103 := eq_true p103
                     replace q103 := eq_true q103
                     go_wp2_with (first | (go_at_call 34; (with_reducible refine (spec_l07Exchanged.calls _ _ l0 x10_1 x11_2 t104 _ ?side1 ?side2 A11.out).mono ?_); (case side1 => exact zC (Kd.C_below HR0.out HB.out)); (case side2 => exact HC0.out); rintro e w14 ⟨v105, rfl, ho0, hb⟩; have n_ := y2 (Kd.R_lower ho0 (below_size (zB))) (below_step (zB) hb); clear HB; obtain ⟨HO106, HB⟩ := n_; (try clear hb); (try clear hb2); (try clear hk); (try clear hi); (try clear ho0); obtain ⟨Ao15, co15, eo15⟩ := Kd.R_slice HO106.out; subst eo15) | (go_at_call 36; (with_reducible refine (spec_l07Squares.calls k2 _ _ t104 _ _ l1 t107 _ ?side1 ?side2 ?side3 ?side4 A12.out).mono ?_); (case side1 => exact zC (Kd.R_reads' HO106.out).2.2); (case side2 => exact (Kd.R_reads' HO106.out).2.1); (case side3 => exact zC (Kd.C_below HR1.out HB.out)); (case side4 => exact HC1.out); rintro e w16 ⟨rfl, hb⟩; have n_ := y2 (Kd.R_below (zR HO106.out) hb) (below_step (zB) hb); clear HO106 HB; obtain ⟨HO106, HB⟩ := n_; (try clear hb); (try clear hb2); (try clear hk); (try clear hi)))
                     repeat (go_quiet (first | (go_at_call 34; (with_reducible refine (spec_l07Exchanged.calls _ _ l0 x10_1 x11_2 t104 _ ?side1 ?side2 A11.out).mono ?_); (case side1 => exact zC (Kd.C_below HR0.out HB.out)); (case side2 => exact HC0.out); rintro e w14 ⟨v105, rfl, ho0, hb⟩; have n_ := y2 (Kd.R_lower ho0 (below_size (zB))) (below_step (zB) hb); clear HB; obtain ⟨HO106, HB⟩ := n_; (try clear hb); (try clear hb2); (try clear hk); (try clear hi); (try clear ho0); obtain ⟨Ao15, co15, eo15⟩ := Kd.R_slice HO106.out; subst eo15) | (go_at_call 36; (with_reducible refine (spec_l07Squares.calls k2 _ _ t104 _ _ l1 t107 _ ?side1 ?side2 ?side3 ?side4 A12.out).mono ?_); (case side1 => exact zC (Kd.R_reads' HO106.out).2.2); (case side2 => exact (Kd.R_reads' HO106.out).2.1); (case side3 => exact zC (Kd.C_below HR1.out HB.out)); (case side4 => exact HC1.out); rintro e w16 ⟨rfl, hb⟩; have n_ := y2 (Kd.R_below (zR HO106.out) hb) (below_step (zB) hb); clear HO106 HB; obtain ⟨HO106, HB⟩ := n_; (try clear hb); (try clear hb2); (try clear hk); (try clear hi))); try go_wp2_with (first | (go_at_call 34; (with_reducible refine (spec_l07Exchanged.calls _ _ l0 x10_1 x11_2 t104 _ ?side1 ?side2 A11.out).mono ?_); (case side1 => exact zC (Kd.C_below HR0.out HB.out)); (case side2 => exact HC0.out); rintro e w14 ⟨v105, rfl, ho0, hb⟩; have n_ := y2 (Kd.R_lower ho0 (below_size (zB))) (below_step (zB) hb); clear HB; obtain ⟨HO106, HB⟩ := n_; (try clear hb); (try clear hb2); (try clear hk); (try clear hi); (try clear ho0); obtain ⟨Ao15, co15, eo15⟩ := Kd.R_slice HO106.out; subst eo15) | (go_at_call 36; (with_reducible refine (spec_l07Squares.calls k2 _ _ t104 _ _ l1 t107 _ ?side1 ?side2 ?side3 ?side4 A12.out).mono ?_); (case side1 => exact zC (Kd.R_reads' HO106.out).2.2); (case side2 => exact (Kd.R_reads' HO106.out).2.1); (case side3 => exact zC (Kd.C_below HR1.out HB.out)); (case side4 => exact HC1.out); rintro e w16 ⟨rfl, hb⟩; have n_ := y2 (Kd.R_below (zR HO106.out) hb) (below_step (zB) hb); clear HO106 HB; obtain ⟨HO106, HB⟩ := n_; (try clear hb); (try clear hb2); (try clear hk); (try clear hi))))
                     go_roundg k2
                     case measure => have := HK1.out; have := HK2.out; omega
                     case rel => exact ⟨(t107), (x10_1), (x11_2), (wrap64 (x11_2 + 1)), zF, zF, zF, zF, H', ⟨by have := HK1.out; have := HK2.out; omega⟩, ⟨zB⟩⟩
                   · rw [if_neg c13] at H
                     have c13b0 : decide (t107 < x7_2) = false := decide_eq_false c13
                     clear c13
                     have H' := Aside0.mk H
                     clear H
                     have p102 : 0 ≤ (x10_1 : Int) := zD
                     have q102 : x10_1 < (l0.length : Int) := zD
                     obtain ⟨ad102, e102, hx102_0⟩ := Kd.at_int HR0.out x10_1 p102 q102
                     cases e102
                     replace hx102_0 := (HB.out.cell (World.block_lt_of_cell? w _ hx102_0)).trans hx102_0
                     replace p102 := eq_true p102
                     replace q102 := eq_true q102
                     have p103 : 0 ≤ (x11_2 : Int) := zD
                     have q103 : x11_2 < (l0.length : Int) := zD
                     obtain ⟨ad103, e103, hx103_0⟩ := Kd.at_int HR0.out x11_2 p103 q103
                     obtain rfl : ad102 = ad103 := (by injection e103)
                     replace hx103_0 := (HB.out.cell (World.block_lt_of_cell? w _ hx103_0)).trans hx103_0
                     replace p103 := eq_true p103
                     replace q103 := eq_true q103
                     go_wp2_with (first | (go_at_call 34; (with_reducible refine (spec_l07Exchanged.calls _ _ l0 x10_1 x11_2 t104 _ ?side1 ?side2 A11.out).mono ?_); (case side1 => exact zC (Kd.C_below HR0.out HB.out)); (case side2 => exact HC0.out); rintro e w17 ⟨v105, rfl, ho0, hb⟩; have n_ := y2 (Kd.R_lower ho0 (below_size (zB))) (below_step (zB) hb); clear HB; obtain ⟨HO106, HB⟩ := n_; (try clear hb); (try clear hb2); (try clear hk); (try clear hi); (try clear ho0); obtain ⟨Ao18, co18, eo18⟩ := Kd.R_slice HO106.out; subst eo18) | (go_at_call 36; (with_reducible refine (spec_l07Squares.calls k2 _ _ t104 _ _ l1 t107 _ ?side1 ?side2 ?side3 ?side4 A12.out).mono ?_); (case side1 => exact zC (Kd.R_reads' HO106.out).2.2); (case side2 => exact (Kd.R_reads' HO106.out).2.1); (case side3 => exact zC (Kd.C_below HR1.out HB.out)); (case side4 => exact HC1.out); rintro e w19 ⟨rfl, hb⟩; have n_ := y2 (Kd.R_below (zR HO106.out) hb) (below_step (zB) hb); clear HO106 HB; obtain ⟨HO106, HB⟩ := n_; (try clear hb); (try clear hb2); (try clear hk); (try clear hi)))
                     repeat (go_quiet (first | (go_at_call 34; (with_reducible refine (spec_l07Exchanged.calls _ _ l0 x10_1 x11_2 t104 _ ?side1 ?side2 A11.out).mono ?_); (case side1 => exact zC (Kd.C_below HR0.out HB.out)); (case side2 => exact HC0.out); rintro e w17 ⟨v105, rfl, ho0, hb⟩; have n_ := y2 (Kd.R_lower ho0 (below_size (zB))) (below_step (zB) hb); clear HB; obtain ⟨HO106, HB⟩ := n_; (try clear hb); (try clear hb2); (try clear hk); (try clear hi); (try clear ho0); obtain ⟨Ao18, co18, eo18⟩ := Kd.R_slice HO106.out; subst eo18) | (go_at_call 36; (with_reducible refine (spec_l07Squares.calls k2 _ _ t104 _ _ l1 t107 _ ?side1 ?side2 ?side3 ?side4 A12.out).mono ?_); (case side1 => exact zC (Kd.R_reads' HO106.out).2.2); (case side2 => exact (Kd.R_reads' HO106.out).2.1); (case side3 => exact zC (Kd.C_below HR1.out HB.out)); (case side4 => exact HC1.out); rintro e w19 ⟨rfl, hb⟩; have n_ := y2 (Kd.R_below (zR HO106.out) hb) (below_step (zB) hb); clear HO106 HB; obtain ⟨HO106, HB⟩ := n_; (try clear hb); (try clear hb2); (try clear hk); (try clear hi))); try go_wp2_with (first | (go_at_call 34; (with_reducible refine (spec_l07Exchanged.calls _ _ l0 x10_1 x11_2 t104 _ ?side1 ?side2 A11.out).mono ?_); (case side1 => exact zC (Kd.C_below HR0.out HB.out)); (case side2 => exact HC0.out); rintro e w17 ⟨v105, rfl, ho0, hb⟩; have n_ := y2 (Kd.R_lower ho0 (below_size (zB))) (below_step (zB) hb); clear HB; obtain ⟨HO106, HB⟩ := n_; (try clear hb); (try clear hb2); (try clear hk); (try clear hi); (try clear ho0); obtain ⟨Ao18, co18, eo18⟩ := Kd.R_slice HO106.out; subst eo18) | (go_at_call 36; (with_reducible refine (spec_l07Squares.calls k2 _ _ t104 _ _ l1 t107 _ ?side1 ?side2 ?side3 ?side4 A12.out).mono ?_); (case side1 => exact zC (Kd.R_reads' HO106.out).2.2); (case side2 => exact (Kd.R_reads' HO106.out).2.1); (case side3 => exact zC (Kd.C_below HR1.out HB.out)); (case side4 => exact HC1.out); rintro e w19 ⟨rfl, hb⟩; have n_ := y2 (Kd.R_below (zR HO106.out) hb) (below_step (zB) hb); clear HO106 HB; obtain ⟨HO106, HB⟩ := n_; (try clear hb); (try clear hb2); (try clear hk); (try clear hi))))
                     go_roundg k2
                     case measure => have := HK1.out; have := HK2.out; omega
                     case rel => exact ⟨(x7_2), (x8_2), (x9_2), (wrap64 (x11_2 + 1)), zF, zF, zF, zF, H', ⟨by have := HK1.out; have := HK2.out; omega⟩, ⟨zB⟩⟩
               · rw [if_neg c9] at H
                 exact absurd H (by simp)
             · rw [if_neg c8] at H
               exact absurd H (by simp)
           · rw [if_neg c7] at H
             exact absurd H (by simp)
         · rw [if_neg c6] at H
           have c6b0 : decide (x11_2 < (l0.length : Int)) = false := decide_eq_false c6
           clear c6
           have H' := Aside0.mk H
           clear H
           go_wp2
           repeat (go_quiet (fail); try go_wp2)
           go_roundg k2
           case measure => have := HK1.out; have := HK2.out; omega
           case rel => exact ⟨(x7_2), (x8_2), (x9_2), (wrap64 (x10_1 + 1)), zF, zF, zF, zF, H', ⟨by have := HK1.out; have := HK2.out; omega⟩, ⟨zB⟩⟩
   · rw [if_neg c5] at H
     have c5b0 : decide (x10_1 < (l0.length : Int)) = false := decide_eq_false c5
     clear c5
     simp only [Option.some.injEq, Prod.mk.injEq] at H
     obtain ⟨rfl, rfl, rfl⟩ := H
     go_wp2
     repeat (go_quiet (fail); try go_wp2)
     go_ret3
     exact ⟨zE, zB⟩
end Go.Proofs.Ytfmjckkgnieccaa.P
end
section
namespace Go.Proofs.Ytfmjckkgnieccaa.P
open Go.RowKit Go.Proofs.YtfmjckkgnieccaaW.PrintWords Go.Proofs.YtfmjckkgnieccaaW.PrintLast Go.Proofs.YtfmjckkgnieccaaW.PrintMore
attribute [local go_sem] max2_int min2_int max_two min_two max_three min_three max_four min_four   -- for this text's walks alone
set_option linter.unusedVariables false
set_option linter.unusedSimpArgs false
def spec_SmoothTurns.l0 : Nat → List Int → List Int → Option (List Int × Int)
  | 0, _, _ => none
  | k + 1, x4, x6 => (spec_l07Best.f k x6 x4).bind fun bt108 => (if bt108.2.2 = true then ((spec_l07Exchanged.f x6 bt108.1 bt108.2.1).bind fun t111 => (spec_SmoothTurns.l0 k x4 t111)) else (some (x6, 0)))
def spec_SmoothTurns.f (k : Nat) (l0 : List Int) : Option (List Int × Int) := (spec_l07Given.f k l0).bind fun bt101 => (if bt101.2 = 0 then ((spec_l01Own.f l0).bind fun t105 => (spec_SmoothTurns.l0 k bt101.1 t105)) else (some (([] : List Int), bt101.2)))
theorem spec_SmoothTurns.mono_l : ∀ k, (∀ y0 y1, LeO (spec_SmoothTurns.l0 k y0 y1) (spec_SmoothTurns.l0 (k + 1) y0 y1))
  | 0 => fun _ _ r h => by simp [spec_SmoothTurns.l0] at h
  | k + 1 => by
    have ih0 := spec_SmoothTurns.mono_l k
    · intro y0 y1
      unfold spec_SmoothTurns.l0
      repeat' first | (with_reducible exact ih0 _ _) | (with_reducible exact spec_l07Best.mono _ _ _) | (with_reducible exact spec_l07Given.mono _ _) | (with_reducible exact LeO.refl _) | (with_reducible exact LeO.none _) | (with_reducible refine LeO.ite ?_ ?_) | (with_reducible refine LeO.bind ?_ (fun _ => ?_)) | exact ih0 _ _ | exact spec_l07Best.mono _ _ _ | exact spec_l07Given.mono _ _ | exact LeO.none _ | refine LeO.ite ?_ ?_ | refine LeO.bind ?_ (fun _ => ?_)
theorem spec_SmoothTurns.mono : ∀ a0 k, LeO (spec_SmoothTurns.f k a0) (spec_SmoothTurns.f (k + 1) a0) := by
  intro a0 k
  have ih0 := spec_SmoothTurns.mono_l k
  unfold spec_SmoothTurns.f
  repeat' first | (with_reducible exact ih0 _ _) | (with_reducible exact spec_l07Best.mono _ _ _) | (with_reducible exact spec_l07Given.mono _ _) | (with_reducible exact LeO.refl _) | (with_reducible exact LeO.none _) | (with_reducible refine LeO.ite ?_ ?_) | (with_reducible refine LeO.bind ?_ (fun _ => ?_)) | exact ih0 _ _ | exact spec_l07Best.mono _ _ _ | exact spec_l07Given.mono _ _ | exact LeO.none _ | refine LeO.ite ?_ ?_ | refine LeO.bind ?_ (fun _ => ?_)
set_option maxHeartbeats 8000000 in
set_option maxRecDepth 100000 in
theorem spec_SmoothTurns.calls (k : Nat) (A0 : Option Addr) (c0 : Nat) (l0 : List Int) (r1 : List Int) (r2 : Int) (w : World) (hr0 : Kd.C (Kd.int .i64) w A0 l0.length l0) (hc0 : l0.length ≤ c0) (h : spec_SmoothTurns.f k l0 = some (r1, r2)) :
    Calls Try.prog 7 #[.slice A0 l0.length c0] w fun e w' => ∃ v0_ : Value, e = .returned (.tuple #[v0_, .int .i64 r2]) ∧ Kd.R (Kd.int .i64) 2 w' w.heap.size (fun _ => True) v0_ r1 ∧ Below w.heap.size w w' := by
 have HR0 := Aside0.mk hr0
 have HC0 := Aside0.mk hc0
 clear hr0 hc0
 have HB := Aside0.mk (Below.refl w.heap.size w)
 have H : ((spec_l07Given.f k l0).bind fun bt101 => (if bt101.2 = 0 then ((spec_l01Own.f l0).bind fun t105 => (spec_SmoothTurns.l0 k bt101.1 t105)) else (some (([] : List Int), bt101.2)))) = some (r1, r2) := h
 clear h
 replace H := Option.bind_eq_some_iff.mp H
 obtain ⟨⟨t101, t102⟩, A20, H⟩ := H
 replace H : (if t102 = 0 then ((spec_l01Own.f l0).bind fun t105 => (spec_SmoothTurns.l0 k t101 t105)) else (some (([] : List Int), t102))) = some (r1, r2) := H
 have A2 := Aside0.mk A20
 clear A20
 by_cases c3 : t102 = 0
 ·
  rw [if_pos c3] at H
  have c3b0 : (t102 == 0) = true := beq_iff_eq.mpr c3
  have c3b1 : (t102 != 0) = false := bne_eq_false_iff_eq.mpr c3
  clear c3
  replace H := Option.bind_eq_some_iff.mp H
  obtain ⟨t105, A40, H⟩ := H
  replace H : (spec_SmoothTurns.l0 k t101 t105) = some (r1, r2) := H
  have A4 := Aside0.mk A40
  clear A40
  have H' := Aside0.mk H
  clear H
  go_enter Try.func7, Try.ntmps7
  go_wp2_with (first | ((with_reducible refine gate_callee (f := 31) rfl ?_); refine goesL_ (some 12) rfl rfl Try.func31 zk rfl #[.slice A0 l0.length c0] rfl zA ?_; (with_reducible refine (spec_l07Given.calls k _ _ l0 t101 t102 _ ?side1 ?side2 A2.out).mono ?_); (case side1 => exact zC HR0.out); (case side2 => exact HC0.out); rintro e w5 ⟨v103, rfl, ho0, hb⟩; refine ⟨_, rfl, ?_⟩; have n_ := y2 (Kd.R_lower ho0 (below_size (zB))) (below_step (zB) hb); clear HB; obtain ⟨HO104, HB⟩ := n_; (try clear hb); (try clear hb2); (try clear hk); (try clear hi); (try clear ho0)) | ((with_reducible refine gate_callee (f := 32) rfl ?_); refine goesL_ (some 19) rfl rfl Try.func32 zk rfl #[.slice A0 l0.length c0] rfl zA ?_; (with_reducible refine (spec_l01Own.calls _ _ l0 t105 _ ?side1 ?side2 A4.out).mono ?_); (case side1 => exact zC (Kd.C_below HR0.out HB.out)); (case side2 => exact HC0.out); rintro e w6 ⟨v106, rfl, ho0, hb⟩; refine ⟨_, rfl, ?_⟩; have n_ := y3 (Kd.R_elder' (zR HO104.out) (Kd.R_base ho0) hb) (Kd.R_lower (Kd.R_new' ho0 (Kd.R_lt (zR HO104.out))) (below_size (zB))) (below_step (zB) hb); clear HO104 HB; obtain ⟨HO104, HO107, HB⟩ := n_; (try clear hb); (try clear hb2); (try clear hk); (try clear hi); (try clear ho0)))
  go_loopg [6] k (fun kq v6 w' => ∃ (x6_1 : List Int), Aside0 (spec_SmoothTurns.l0 kq t101 x6_1 = some (r1, r2)) ∧ Aside0 (kq ≤ k) ∧ Aside0 (Kd.R (Kd.int .i64) 2 w' w.heap.size (fun k_ => some k_ ≠ (v6 : Value).ownBlock) v103 t101) ∧ Aside0 (Kd.R (Kd.int .i64) 2 w' w.heap.size (fun k_ => some k_ ≠ (v103 : Value).ownBlock) v6 x6_1) ∧ Aside0 (Below w.heap.size w w'))
  case atStart => exact ⟨(t105), H', ⟨Nat.le_refl _⟩, ⟨by refine zR ?_; exact Kd.R_mono HO104.out (fun _ hk => hk.2)⟩, ⟨by refine zR ?_; exact Kd.R_mono HO107.out (fun _ hk => hk.2)⟩, ⟨zB⟩⟩
  clear H'
  try clear c3
  try clear c3b0
  try clear c3b1
  obtain ⟨x6_1, HA, HK1, HO_4, HO_6, HB⟩ := hrel
  cases gk with
  | zero => exact absurd HA.out (by simp [spec_SmoothTurns.l0])
  | succ k1 =>
    have H := HA.out
    clear HA
    simp only [spec_SmoothTurns.l0] at H
    replace H := Option.bind_eq_some_iff.mp H
    obtain ⟨⟨t108, t109, t110⟩, A70, H⟩ := H
    replace H : (if t110 = true then ((spec_l07Exchanged.f x6_1 t108 t109).bind fun t111 => (spec_SmoothTurns.l0 k1 t101 t111)) else (some (x6_1, 0))) = some (r1, r2) := H
    have A7 := Aside0.mk A70
    clear A70
    by_cases c8 : t110 = true
    · subst c8
      have H1 : ((spec_l07Exchanged.f x6_1 t108 t109).bind fun t111 => (spec_SmoothTurns.l0 k1 t101 t111)) = some (r1, r2) := by rw [if_pos rfl] at H; exact H
      clear H
      have H := H1
      clear H1
      replace H := Option.bind_eq_some_iff.mp H
      obtain ⟨t111, A90, H⟩ := H
      replace H : (spec_SmoothTurns.l0 k1 t101 t111) = some (r1, r2) := H
      have A9 := Aside0.mk A90
      clear A90
      have H' := Aside0.mk H
      clear H
      obtain ⟨Ao10, co10, eo10⟩ := Kd.R_slice HO_6.out
      subst eo10
      obtain ⟨Ao11, co11, eo11⟩ := Kd.R_slice HO_4.out
      subst eo11
      go_wp2_with (first | ((with_reducible refine gate_callee (f := 33) rfl ?_); refine goesL_ (some 23) rfl rfl Try.func33 zk rfl #[.slice Ao10 x6_1.length co10, .slice Ao11 t101.length co11] rfl zA ?_; (with_reducible refine (spec_l07Best.calls k1 _ _ x6_1 _ _ t101 t108 t109 true _ ?side1 ?side2 ?side3 ?side4 A7.out).mono ?_); (case side1 => exact zC (Kd.R_reads' HO_6.out).2.2); (case side2 => exact (Kd.R_reads' HO_6.out).2.1); (case side3 => exact zC (Kd.R_reads' HO_4.out).2.2); (case side4 => exact (Kd.R_reads' HO_4.out).2.1); rintro e w12 ⟨rfl, hb⟩; refine ⟨_, rfl, ?_⟩; have n_ := y3 (Kd.R_below (zR HO_4.out) hb) (Kd.R_below (zR HO_6.out) hb) (below_step (zB) hb); clear HO_4 HO_6 HB; obtain ⟨HO_4, HO_6, HB⟩ := n_; (try clear hb); (try clear hb2); (try clear hk); (try clear hi)) | ((with_reducible refine gate_callee (f := 34) rfl ?_); refine goesL_ (some 33) rfl rfl Try.func34 zk rfl #[.slice Ao10 x6_1.length co10, .int .i64 t108, .int .i64 t109] rfl zA ?_; (with_reducible refine (spec_l07Exchanged.calls _ _ x6_1 t108 t109 t111 _ ?side1 ?side2 A9.out).mono ?_); (case side1 => exact zC (Kd.R_reads' HO_6.out).2.2); (case side2 => exact (Kd.R_reads' HO_6.out).2.1); rintro e w13 ⟨v112, rfl, ho0, hb⟩; refine ⟨_, rfl, ?_⟩; have n_ := y4 (Kd.R_elder' (zR HO_4.out) (Kd.R_base ho0) hb) (Kd.R_elder' (zR HO_6.out) (Kd.R_base ho0) hb) (Kd.R_lower (Kd.R_new' (Kd.R_new' ho0 (Kd.R_lt (zR HO_4.out))) (Kd.R_lt (zR HO_6.out))) (below_size (zB))) (below_step (zB) hb); clear HO_4 HO_6 HB; obtain ⟨HO_4, HO_6, HO113, HB⟩ := n_; (try clear hb); (try clear hb2); (try clear hk); (try clear hi); (try clear ho0)))
      go_roundg k1
      case measure => have := HK1.out; omega
      case rel => exact ⟨(t111), H', ⟨by have := HK1.out; omega⟩, ⟨by refine zR ?_; exact Kd.R_mono HO_4.out (fun _ hk => hk.2)⟩, ⟨by refine zR ?_; exact Kd.R_mono HO113.out (fun _ hk => hk.1.2)⟩, ⟨zB⟩⟩
    · replace c8 := Bool.eq_false_iff.mpr c8
      subst c8
      have H1 : (some (x6_1, 0)) = some (r1, r2) := by rw [if_neg (show ¬ (false = true) by decide)] at H; exact H
      clear H
      have H := H1
      clear H1
      simp only [Option.some.injEq, Prod.mk.injEq] at H
      obtain ⟨rfl, rfl⟩ := H
      obtain ⟨Ao14, co14, eo14⟩ := Kd.R_slice HO_6.out
      subst eo14
      obtain ⟨Ao15, co15, eo15⟩ := Kd.R_slice HO_4.out
      subst eo15
      go_wp2_with (first | ((with_reducible refine gate_callee (f := 33) rfl ?_); refine goesL_ (some 23) rfl rfl Try.func33 zk rfl #[.slice Ao14 x6_1.length co14, .slice Ao15 t101.length co15] rfl zA ?_; (with_reducible refine (spec_l07Best.calls k1 _ _ x6_1 _ _ t101 t108 t109 false _ ?side1 ?side2 ?side3 ?side4 A7.out).mono ?_); (case side1 => exact zC (Kd.R_reads' HO_6.out).2.2); (case side2 => exact (Kd.R_reads' HO_6.out).2.1); (case side3 => exact zC (Kd.R_reads' HO_4.out).2.2); (case side4 => exact (Kd.R_reads' HO_4.out).2.1); rintro e w16 ⟨rfl, hb⟩; refine ⟨_, rfl, ?_⟩; have n_ := y3 (Kd.R_below (zR HO_4.out) hb) (Kd.R_below (zR HO_6.out) hb) (below_step (zB) hb); clear HO_4 HO_6 HB; obtain ⟨HO_4, HO_6, HB⟩ := n_; (try clear hb); (try clear hb2); (try clear hk); (try clear hi)))
      go_ret2
      exact ⟨_, zE, by refine zR ?_; exact Kd.R_mono HO_6.out (fun _ hk => trivial), zB⟩
 rw [if_neg c3] at H
 have c3b0 : (t102 == 0) = false := beq_eq_false_iff_ne.mpr c3
 have c3b1 : (t102 != 0) = true := bne_iff_ne.mpr c3
 simp only [Option.some.injEq, Prod.mk.injEq] at H
 obtain ⟨rfl, rfl⟩ := H
 go_enter Try.func7, Try.ntmps7
 go_wp2_with (first | ((with_reducible refine gate_callee (f := 31) rfl ?_); refine goesL_ (some 12) rfl rfl Try.func31 zk rfl #[.slice A0 l0.length c0] rfl zA ?_; (with_reducible refine (spec_l07Given.calls k _ _ l0 t101 t102 _ ?side1 ?side2 A2.out).mono ?_); (case side1 => exact zC HR0.out); (case side2 => exact HC0.out); rintro e w17 ⟨v103, rfl, ho0, hb⟩; refine ⟨_, rfl, ?_⟩; have n_ := y2 (Kd.R_lower ho0 (below_size (zB))) (below_step (zB) hb); clear HB; obtain ⟨HO104, HB⟩ := n_; (try clear hb); (try clear hb2); (try clear hk); (try clear hi); (try clear ho0)))
 go_ret2
 exact ⟨_, zE, zN, zB⟩
end Go.Proofs.Ytfmjckkgnieccaa.P
end
section
namespace Go.Proofs.Ytfmjckkgnieccaa.P
open Go.RowKit Go.Proofs.YtfmjckkgnieccaaW.PrintWords Go.Proofs.YtfmjckkgnieccaaW.PrintLast Go.Proofs.YtfmjckkgnieccaaW.PrintMore
attribute [local go_sem] max2_int min2_int max_two min_two max_three min_three max_four min_four   -- for this text's walks alone
set_option linter.unusedVariables false
set_option linter.unusedSimpArgs false
def impl_SquaresOf.f (k : Nat) (l0 : List Int) : Option (Int × Int) := (impl_levelCode.f k l0).bind fun t101 => (if t101 = 0 then ((impl_squares.f k l0).bind fun t102 => (some (t102, 0))) else (some (0, t101)))
theorem impl_SquaresOf.mono : ∀ a0 k, LeO (impl_SquaresOf.f k a0) (impl_SquaresOf.f (k + 1) a0) := by
  intro a0 k
  unfold impl_SquaresOf.f
  repeat' first | (with_reducible exact impl_levelCode.mono _ _) | (with_reducible exact impl_squares.mono _ _) | (with_reducible exact LeO.refl _) | (with_reducible exact LeO.none _) | (with_reducible refine LeO.ite ?_ ?_) | (with_reducible refine LeO.bind ?_ (fun _ => ?_)) | exact impl_levelCode.mono _ _ | exact impl_squares.mono _ _ | exact LeO.none _ | refine LeO.ite ?_ ?_ | refine LeO.bind ?_ (fun _ => ?_)
set_option maxHeartbeats 8000000 in
set_option maxRecDepth 100000 in
theorem impl_SquaresOf.calls (k : Nat) (A0 : Option Addr) (c0 : Nat) (l0 : List Int) (r1 : Int) (r2 : Int) (w : World) (hr0 : Kd.C (Kd.int .i64) w A0 l0.length l0) (hc0 : l0.length ≤ c0) (h : impl_SquaresOf.f k l0 = some (r1, r2)) :
    Calls Try.prog 8 #[.slice A0 l0.length c0] w fun e w' => e = .returned (.tuple #[.int .i64 r1, .int .i64 r2]) ∧ Below w.heap.size w w' := by
 have HR0 := Aside0.mk hr0
 have HC0 := Aside0.mk hc0
 clear hr0 hc0
 have HB := Aside0.mk (Below.refl w.heap.size w)
 have H : ((impl_levelCode.f k l0).bind fun t101 => (if t101 = 0 then ((impl_squares.f k l0).bind fun t102 => (some (t102, 0))) else (some (0, t101)))) = some (r1, r2) := h
 clear h
 replace H := Option.bind_eq_some_iff.mp H
 obtain ⟨t101, A20, H⟩ := H
 replace H : (if t101 = 0 then ((impl_squares.f k l0).bind fun t102 => (some (t102, 0))) else (some (0, t101))) = some (r1, r2) := H
 have A2 := Aside0.mk A20
 clear A20
 by_cases c3 : t101 = 0
 ·
  rw [if_pos c3] at H
  have c3b0 : (t101 == 0) = true := beq_iff_eq.mpr c3
  have c3b1 : (t101 != 0) = false := bne_eq_false_iff_eq.mpr c3
  clear c3
  replace H := Option.bind_eq_some_iff.mp H
  obtain ⟨t102, A40, H⟩ := H
  replace H : (some (t102, 0)) = some (r1, r2) := H
  have A4 := Aside0.mk A40
  clear A40
  simp only [Option.some.injEq, Prod.mk.injEq] at H
  obtain ⟨rfl, rfl⟩ := H
  go_enter Try.func8, Try.ntmps8
  go_wp2_with (first | ((with_reducible refine gate_callee (f := 27) rfl ?_); refine goesL_ (some 6) rfl rfl Try.func27 zk rfl #[.slice A0 l0.length c0] rfl zA ?_; (with_reducible refine (impl_levelCode.calls k _ _ l0 t101 _ ?side1 ?side2 A2.out).mono ?_); (case side1 => exact zC HR0.out); (case side2 => exact HC0.out); rintro e w5 ⟨rfl, hb⟩; refine ⟨_, rfl, ?_⟩; replace HB := Aside0.mk (below_step (zB) hb); (try clear hb); (try clear hb2); (try clear hk); (try clear hi)) | ((with_reducible refine gate_callee (f := 35) rfl ?_); refine goesL_ (some 11) rfl rfl Try.func35 zk rfl #[.slice A0 l0.length c0] rfl zA ?_; (with_reducible refine (impl_squares.calls k _ _ l0 t102 _ ?side1 ?side2 A4.out).mono ?_); (case side1 => exact zC (Kd.C_below HR0.out HB.out)); (case side2 => exact HC0.out); rintro e w6 ⟨rfl, hb⟩; refine ⟨_, rfl, ?_⟩; replace HB := Aside0.mk (below_step (zB) hb); (try clear hb); (try clear hb2); (try clear hk); (try clear hi)))
  go_ret2
  exact ⟨zE, zB⟩
 rw [if_neg c3] at H
 have c3b0 : (t101 == 0) = false := beq_eq_false_iff_ne.mpr c3
 have c3b1 : (t101 != 0) = true := bne_iff_ne.mpr c3
 simp only [Option.some.injEq, Prod.mk.injEq] at H
 obtain ⟨rfl, rfl⟩ := H
 go_enter Try.func8, Try.ntmps8
 go_wp2_with (first | ((with_reducible refine gate_callee (f := 27) rfl ?_); refine goesL_ (some 6) rfl rfl Try.func27 zk rfl #[.slice A0 l0.length c0] rfl zA ?_; (with_reducible refine (impl_levelCode.calls k _ _ l0 t101 _ ?side1 ?side2 A2.out).mono ?_); (case side1 => exact zC HR0.out); (case side2 => exact HC0.out); rintro e w7 ⟨rfl, hb⟩; refine ⟨_, rfl, ?_⟩; replace HB := Aside0.mk (below_step (zB) hb); (try clear hb); (try clear hb2); (try clear hk); (try clear hi)))
 go_ret2
 exact ⟨zE, zB⟩
end Go.Proofs.Ytfmjckkgnieccaa.P
end
section
namespace Go.Proofs.Ytfmjckkgnieccaa.P
open Go.RowKit Go.Proofs.YtfmjckkgnieccaaW.PrintWords Go.Proofs.YtfmjckkgnieccaaW.PrintLast Go.Proofs.YtfmjckkgnieccaaW.PrintMore
attribute [local go_sem] max2_int min2_int max_two min_two max_three min_three max_four min_four   -- for this text's walks alone
set_option linter.unusedVariables false
set_option linter.unusedSimpArgs false
def spec_SquaresOf.f (k : Nat) (l0 : List Int) : Option (Int × Int) := (spec_l07Given.f k l0).bind fun bt101 => (if bt101.2 = 0 then ((spec_l07Squares.f k l0 bt101.1).bind fun t105 => (some (t105, 0))) else (some (0, bt101.2)))
theorem spec_SquaresOf.mono : ∀ a0 k, LeO (spec_SquaresOf.f k a0) (spec_SquaresOf.f (k + 1) a0) := by
  intro a0 k
  unfold spec_SquaresOf.f
  repeat' first | (with_reducible exact spec_l07Given.mono _ _) | (with_reducible exact spec_l07Squares.mono _ _ _) | (with_reducible exact LeO.refl _) | (with_reducible exact LeO.none _) | (with_reducible refine LeO.ite ?_ ?_) | (with_reducible refine LeO.bind ?_ (fun _ => ?_)) | exact spec_l07Given.mono _ _ | exact spec_l07Squares.mono _ _ _ | exact LeO.none _ | refine LeO.ite ?_ ?_ | refine LeO.bind ?_ (fun _ => ?_)
set_option maxHeartbeats 8000000 in
set_option maxRecDepth 100000 in
theorem spec_SquaresOf.calls (k : Nat) (A0 : Option Addr) (c0 : Nat) (l0 : List Int) (r1 : Int) (r2 : Int) (w : World) (hr0 : Kd.C (Kd.int .i64) w A0 l0.length l0) (hc0 : l0.length ≤ c0) (h : spec_SquaresOf.f k l0 = some (r1, r2)) :
    Calls Try.prog 9 #[.slice A0 l0.length c0] w fun e w' => e = .returned (.tuple #[.int .i64 r1, .int .i64 r2]) ∧ Below w.heap.size w w' := by
 have HR0 := Aside0.mk hr0
 have HC0 := Aside0.mk hc0
 clear hr0 hc0
 have HB := Aside0.mk (Below.refl w.heap.size w)
 have H : ((spec_l07Given.f k l0).bind fun bt101 => (if bt101.2 = 0 then ((spec_l07Squares.f k l0 bt101.1).bind fun t105 => (some (t105, 0))) else (some (0, bt101.2)))) = some (r1, r2) := h
 clear h
 replace H := Option.bind_eq_some_iff.mp H
 obtain ⟨⟨t101, t102⟩, A20, H⟩ := H
 replace H : (if t102 = 0 then ((spec_l07Squares.f k l0 t101).bind fun t105 => (some (t105, 0))) else (some (0, t102))) = some (r1, r2) := H
 have A2 := Aside0.mk A20
 clear A20
 by_cases c3 : t102 = 0
 ·
  rw [if_pos c3] at H
  have c3b0 : (t102 == 0) = true := beq_iff_eq.mpr c3
  have c3b1 : (t102 != 0) = false := bne_eq_false_iff_eq.mpr c3
  clear c3
  replace H := Option.bind_eq_some_iff.mp H
  obtain ⟨t105, A40, H⟩ := H
  replace H : (some (t105, 0)) = some (r1, r2) := H
  have A4 := Aside0.mk A40
  clear A40
  simp only [Option.some.injEq, Prod.mk.injEq] at H
  obtain ⟨rfl, rfl⟩ := H
  go_enter Try.func9, Try.ntmps9
  go_wp2_with (first | ((with_reducible refine gate_callee (f := 31) rfl ?_); refine goesL_ (some 8) rfl rfl Try.func31 zk rfl #[.slice A0 l0.length c0] rfl zA ?_; (with_reducible refine (spec_l07Given.calls k _ _ l0 t101 t102 _ ?side1 ?side2 A2.out).mono ?_); (case side1 => exact zC HR0.out); (case side2 => exact HC0.out); rintro e w5 ⟨v103, rfl, ho0, hb⟩; refine ⟨_, rfl, ?_⟩; have n_ := y2 (Kd.R_lower ho0 (below_size (zB))) (below_step (zB) hb); clear HB; obtain ⟨HO104, HB⟩ := n_; (try clear hb); (try clear hb2); (try clear hk); (try clear hi); (try clear ho0); obtain ⟨Ao6, co6, eo6⟩ := Kd.R_slice HO104.out; subst eo6) | ((with_reducible refine gate_callee (f := 36) rfl ?_); refine goesL_ (some 16) rfl rfl Try.func36 zk rfl #[.slice A0 l0.length c0, .slice Ao6 t101.length co6] rfl zA ?_; (with_reducible refine (spec_l07Squares.calls k _ _ l0 _ _ t101 t105 _ ?side1 ?side2 ?side3 ?side4 A4.out).mono ?_); (case side1 => exact zC (Kd.C_below HR0.out HB.out)); (case side2 => exact HC0.out); (case side3 => exact zC (Kd.R_reads' HO104.out).2.2); (case side4 => exact (Kd.R_reads' HO104.out).2.1); rintro e w7 ⟨rfl, hb⟩; refine ⟨_, rfl, ?_⟩; have n_ := y2 (Kd.R_below (zR HO104.out) hb) (below_step (zB) hb); clear HO104 HB; obtain ⟨HO104, HB⟩ := n_; (try clear hb); (try clear hb2); (try clear hk); (try clear hi)))
  go_ret2
  exact ⟨zE, zB⟩
 rw [if_neg c3] at H
 have c3b0 : (t102 == 0) = false := beq_eq_false_iff_ne.mpr c3
 have c3b1 : (t102 != 0) = true := bne_iff_ne.mpr c3
 simp only [Option.some.injEq, Prod.mk.injEq] at H
 obtain ⟨rfl, rfl⟩ := H
 go_enter Try.func9, Try.ntmps9
 go_wp2_with (first | ((with_reducible refine gate_callee (f := 31) rfl ?_); refine goesL_ (some 8) rfl rfl Try.func31 zk rfl #[.slice A0 l0.length c0] rfl zA ?_; (with_reducible refine (spec_l07Given.calls k _ _ l0 t101 t102 _ ?side1 ?side2 A2.out).mono ?_); (case side1 => exact zC HR0.out); (case side2 => exact HC0.out); rintro e w8 ⟨v103, rfl, ho0, hb⟩; refine ⟨_, rfl, ?_⟩; have n_ := y2 (Kd.R_lower ho0 (below_size (zB))) (below_step (zB) hb); clear HB; obtain ⟨HO104, HB⟩ := n_; (try clear hb); (try clear hb2); (try clear hk); (try clear hi); (try clear ho0)))
 go_ret2
 exact ⟨zE, zB⟩
end Go.Proofs.Ytfmjckkgnieccaa.P
end
section
namespace Go.Proofs.Ytfmjckkgnieccaa.P
open Go.RowKit Go.Proofs.YtfmjckkgnieccaaW.PrintWords Go.Proofs.YtfmjckkgnieccaaW.PrintLast Go.Proofs.YtfmjckkgnieccaaW.PrintMore
attribute [local go_sem] max2_int min2_int max_two min_two max_three min_three max_four min_four   -- for this text's walks alone
set_option linter.unusedVariables false
set_option linter.unusedSimpArgs false
def impl_BestExchange.f (k : Nat) (l0 : List Int) : Option (Int × Int × Int) := (impl_levelCode.f k l0).bind fun t101 => (if t101 = 0 then ((impl_bestExchange.f k l0).bind fun bt102 => (if bt102.2.2 = true then (some (bt102.1, bt102.2.1, 0)) else (some (0, 0, 4)))) else (some (0, 0, t101)))
theorem impl_BestExchange.mono : ∀ a0 k, LeO (impl_BestExchange.f k a0) (impl_BestExchange.f (k + 1) a0) := by
  intro a0 k
  unfold impl_BestExchange.f
  repeat' first | (with_reducible exact impl_bestExchange.mono _ _) | (with_reducible exact impl_levelCode.mono _ _) | (with_reducible exact LeO.refl _) | (with_reducible exact LeO.none _) | (with_reducible refine LeO.ite ?_ ?_) | (with_reducible refine LeO.bind ?_ (fun _ => ?_)) | exact impl_bestExchange.mono _ _ | exact impl_levelCode.mono _ _ | exact LeO.none _ | refine LeO.ite ?_ ?_ | refine LeO.bind ?_ (fun _ => ?_)
set_option maxHeartbeats 8000000 in
set_option maxRecDepth 100000 in
theorem impl_BestExchange.calls (k : Nat) (A0 : Option Addr) (c0 : Nat) (l0 : List Int) (r1 : Int) (r2 : Int) (r3 : Int) (w : World) (hr0 : Kd.C (Kd.int .i64) w A0 l0.length l0) (hc0 : l0.length ≤ c0) (h : impl_BestExchange.f k l0 = some (r1, r2, r3)) :
    Calls Try.prog 10 #[.slice A0 l0.length c0] w fun e w' => e = .returned (.tuple #[.int .i64 r1, .int .i64 r2, .int .i64 r3]) ∧ Below w.heap.size w w' := by
 have HR0 := Aside0.mk hr0
 have HC0 := Aside0.mk hc0
 clear hr0 hc0
 have HB := Aside0.mk (Below.refl w.heap.size w)
 have H : ((impl_levelCode.f k l0).bind fun t101 => (if t101 = 0 then ((impl_bestExchange.f k l0).bind fun bt102 => (if bt102.2.2 = true then (some (bt102.1, bt102.2.1, 0)) else (some (0, 0, 4)))) else (some (0, 0, t101)))) = some (r1, r2, r3) := h
 clear h
 replace H := Option.bind_eq_some_iff.mp H
 obtain ⟨t101, A20, H⟩ := H
 replace H : (if t101 = 0 then ((impl_bestExchange.f k l0).bind fun bt102 => (if bt102.2.2 = true then (some (bt102.1, bt102.2.1, 0)) else (some (0, 0, 4)))) else (some (0, 0, t101))) = some (r1, r2, r3) := H
 have A2 := Aside0.mk A20
 clear A20
 by_cases c3 : t101 = 0
 ·
  rw [if_pos c3] at H
  have c3b0 : (t101 == 0) = true := beq_iff_eq.mpr c3
  have c3b1 : (t101 != 0) = false := bne_eq_false_iff_eq.mpr c3
  clear c3
  replace H := Option.bind_eq_some_iff.mp H
  obtain ⟨⟨t102, t103, t104⟩, A40, H⟩ := H
  replace H : (if t104 = true then (some (t102, t103, 0)) else (some (0, 0, 4))) = some (r1, r2, r3) := H
  have A4 := Aside0.mk A40
  clear A40
  by_cases c5 : t104 = true
  ·
   subst c5
   have H1 : (some (t102, t103, 0)) = some (r1, r2, r3) := by rw [if_pos rfl] at H; exact H
   clear H
   have H := H1
   clear H1
   simp only [Option.some.injEq, Prod.mk.injEq] at H
   obtain ⟨rfl, rfl, rfl⟩ := H
   go_enter Try.func10, Try.ntmps10
   go_wp2_with (first | ((with_reducible refine gate_callee (f := 27) rfl ?_); refine goesL_ (some 10) rfl rfl Try.func27 zk rfl #[.slice A0 l0.length c0] rfl zA ?_; (with_reducible refine (impl_levelCode.calls k _ _ l0 t101 _ ?side1 ?side2 A2.out).mono ?_); (case side1 => exact zC HR0.out); (case side2 => exact HC0.out); rintro e w6 ⟨rfl, hb⟩; refine ⟨_, rfl, ?_⟩; replace HB := Aside0.mk (below_step (zB) hb); (try clear hb); (try clear hb2); (try clear hk); (try clear hi)) | ((with_reducible refine gate_callee (f := 29) rfl ?_); refine goesL_ (some 16) rfl rfl Try.func29 zk rfl #[.slice A0 l0.length c0] rfl zA ?_; (with_reducible refine (impl_bestExchange.calls k _ _ l0 t102 t103 true _ ?side1 ?side2 A4.out).mono ?_); (case side1 => exact zC (Kd.C_below HR0.out HB.out)); (case side2 => exact HC0.out); rintro e w7 ⟨rfl, hb⟩; refine ⟨_, rfl, ?_⟩; replace HB := Aside0.mk (below_step (zB) hb); (try clear hb); (try clear hb2); (try clear hk); (try clear hi)))
   go_ret3
   exact ⟨zE, zB⟩
  replace c5 := Bool.eq_false_iff.mpr c5
  subst c5
  have H1 : (some (0, 0, 4)) = some (r1, r2, r3) := by rw [if_neg (show ¬ (false = true) by decide)] at H; exact H
  clear H
  have H := H1
  clear H1
  simp only [Option.some.injEq, Prod.mk.injEq] at H
  obtain ⟨rfl, rfl, rfl⟩ := H
  go_enter Try.func10, Try.ntmps10
  go_wp2_with (first | ((with_reducible refine gate_callee (f := 27) rfl ?_); refine goesL_ (some 10) rfl rfl Try.func27 zk rfl #[.slice A0 l0.length c0] rfl zA ?_; (with_reducible refine (impl_levelCode.calls k _ _ l0 t101 _ ?side1 ?side2 A2.out).mono ?_); (case side1 => exact zC HR0.out); (case side2 => exact HC0.out); rintro e w8 ⟨rfl, hb⟩; refine ⟨_, rfl, ?_⟩; replace HB := Aside0.mk (below_step (zB) hb); (try clear hb); (try clear hb2); (try clear hk); (try clear hi)) | ((with_reducible refine gate_callee (f := 29) rfl ?_); refine goesL_ (some 16) rfl rfl Try.func29 zk rfl #[.slice A0 l0.length c0] rfl zA ?_; (with_reducible refine (impl_bestExchange.calls k _ _ l0 t102 t103 false _ ?side1 ?side2 A4.out).mono ?_); (case side1 => exact zC (Kd.C_below HR0.out HB.out)); (case side2 => exact HC0.out); rintro e w9 ⟨rfl, hb⟩; refine ⟨_, rfl, ?_⟩; replace HB := Aside0.mk (below_step (zB) hb); (try clear hb); (try clear hb2); (try clear hk); (try clear hi)))
  go_ret3
  exact ⟨zE, zB⟩
 rw [if_neg c3] at H
 have c3b0 : (t101 == 0) = false := beq_eq_false_iff_ne.mpr c3
 have c3b1 : (t101 != 0) = true := bne_iff_ne.mpr c3
 simp only [Option.some.injEq, Prod.mk.injEq] at H
 obtain ⟨rfl, rfl, rfl⟩ := H
 go_enter Try.func10, Try.ntmps10
 go_wp2_with (first | ((with_reducible refine gate_callee (f := 27) rfl ?_); refine goesL_ (some 10) rfl rfl Try.func27 zk rfl #[.slice A0 l0.length c0] rfl zA ?_; (with_reducible refine (impl_levelCode.calls k _ _ l0 t101 _ ?side1 ?side2 A2.out).mono ?_); (case side1 => exact zC HR0.out); (case side2 => exact HC0.out); rintro e w10 ⟨rfl, hb⟩; refine ⟨_, rfl, ?_⟩; replace HB := Aside0.mk (below_step (zB) hb); (try clear hb); (try clear hb2); (try clear hk); (try clear hi)))
 go_ret3
 exact ⟨zE, zB⟩
end Go.Proofs.Ytfmjckkgnieccaa.P
end
section
namespace Go.Proofs.Ytfmjckkgnieccaa.P
open Go.RowKit Go.Proofs.YtfmjckkgnieccaaW.PrintWords Go.Proofs.YtfmjckkgnieccaaW.PrintLast Go.Proofs.YtfmjckkgnieccaaW.PrintMore
attribute [local go_sem] max2_int min2_int max_two min_two max_three min_three max_four min_four   -- for this text's walks alone
set_option linter.unusedVariables false
set_option linter.unusedSimpArgs false
def spec_BestExchange.f (k : Nat) (l0 : List Int) : Option (Int × Int × Int) := (spec_l07Given.f k l0).bind fun bt101 => (if bt101.2 = 0 then ((spec_l07Best.f k l0 bt101.1).bind fun bt105 => (if bt105.2.2 = true then (some (bt105.1, bt105.2.1, 0)) else (some (0, 0, 4)))) else (some (0, 0, bt101.2)))
theorem spec_BestExchange.mono : ∀ a0 k, LeO (spec_BestExchange.f k a0) (spec_BestExchange.f (k + 1) a0) := by
  intro a0 k
  unfold spec_BestExchange.f
  repeat' first | (with_reducible exact spec_l07Best.mono _ _ _) | (with_reducible exact spec_l07Given.mono _ _) | (with_reducible exact LeO.refl _) | (with_reducible exact LeO.none _) | (with_reducible refine LeO.ite ?_ ?_) | (with_reducible refine LeO.bind ?_ (fun _ => ?_)) | exact spec_l07Best.mono _ _ _ | exact spec_l07Given.mono _ _ | exact LeO.none _ | refine LeO.ite ?_ ?_ | refine LeO.bind ?_ (fun _ => ?_)
set_option maxHeartbeats 8000000 in
set_option maxRecDepth 100000 in
theorem spec_BestExchange.calls (k : Nat) (A0 : Option Addr) (c0 : Nat) (l0 : List Int) (r1 : Int) (r2 : Int) (r3 : Int) (w : World) (hr0 : Kd.C (Kd.int .i64) w A0 l0.length l0) (hc0 : l0.length ≤ c0) (h : spec_BestExchange.f k l0 = some (r1, r2, r3)) :
    Calls Try.prog 11 #[.slice A0 l0.length c0] w fun e w' => e = .returned (.tuple #[.int .i64 r1, .int .i64 r2, .int .i64 r3]) ∧ Below w.heap.size w w' := by
 have HR0 := Aside0.mk hr0
 have HC0 := Aside0.mk hc0
 clear hr0 hc0
 have HB := Aside0.mk (Below.refl w.heap.size w)
 have H : ((spec_l07Given.f k l0).bind fun bt101 => (if bt101.2 = 0 then ((spec_l07Best.f k l0 bt101.1).bind fun bt105 => (if bt105.2.2 = true then (some (bt105.1, bt105.2.1, 0)) else (some (0, 0, 4)))) else (some (0, 0, bt101.2)))) = some (r1, r2, r3) := h
 clear h
 replace H := Option.bind_eq_some_iff.mp H
 obtain ⟨⟨t101, t102⟩, A20, H⟩ := H
 replace H : (if t102 = 0 then ((spec_l07Best.f k l0 t101).bind fun bt105 => (if bt105.2.2 = true then (some (bt105.1, bt105.2.1, 0)) else (some (0, 0, 4)))) else (some (0, 0, t102))) = some (r1, r2, r3) := H
 have A2 := Aside0.mk A20
 clear A20
 by_cases c3 : t102 = 0
 ·
  rw [if_pos c3] at H
  have c3b0 : (t102 == 0) = true := beq_iff_eq.mpr c3
  have c3b1 : (t102 != 0) = false := bne_eq_false_iff_eq.mpr c3
  clear c3
  replace H := Option.bind_eq_some_iff.mp H
  obtain ⟨⟨t105, t106, t107⟩, A40, H⟩ := H
  replace H : (if t107 = true then (some (t105, t106, 0)) else (some (0, 0, 4))) = some (r1, r2, r3) := H
  have A4 := Aside0.mk A40
  clear A40
  by_cases c5 : t107 = true
  ·
   subst c5
   have H1 : (some (t105, t106, 0)) = some (r1, r2, r3) := by rw [if_pos rfl] at H; exact H
   clear H
   have H := H1
   clear H1
   simp only [Option.some.injEq, Prod.mk.injEq] at H
   obtain ⟨rfl, rfl, rfl⟩ := H
   go_enter Try.func11, Try.ntmps11
   go_wp2_with (first | ((with_reducible refine gate_callee (f := 31) rfl ?_); refine goesL_ (some 12) rfl rfl Try.func31 zk rfl #[.slice A0 l0.length c0] rfl zA ?_; (with_reducible refine (spec_l07Given.calls k _ _ l0 t101 t102 _ ?side1 ?side2 A2.out).mono ?_); (case side1 => exact zC HR0.out); (case side2 => exact HC0.out); rintro e w6 ⟨v103, rfl, ho0, hb⟩; refine ⟨_, rfl, ?_⟩; have n_ := y2 (Kd.R_lower ho0 (below_size (zB))) (below_step (zB) hb); clear HB; obtain ⟨HO104, HB⟩ := n_; (try clear hb); (try clear hb2); (try clear hk); (try clear hi); (try clear ho0); obtain ⟨Ao7, co7, eo7⟩ := Kd.R_slice HO104.out; subst eo7) | ((with_reducible refine gate_callee (f := 33) rfl ?_); refine goesL_ (some 21) rfl rfl Try.func33 zk rfl #[.slice A0 l0.length c0, .slice Ao7 t101.length co7] rfl zA ?_; (with_reducible refine (spec_l07Best.calls k _ _ l0 _ _ t101 t105 t106 true _ ?side1 ?side2 ?side3 ?side4 A4.out).mono ?_); (case side1 => exact zC (Kd.C_below HR0.out HB.out)); (case side2 => exact HC0.out); (case side3 => exact zC (Kd.R_reads' HO104.out).2.2); (case side4 => exact (Kd.R_reads' HO104.out).2.1); rintro e w8 ⟨rfl, hb⟩; refine ⟨_, rfl, ?_⟩; have n_ := y2 (Kd.R_below (zR HO104.out) hb) (below_step (zB) hb); clear HO104 HB; obtain ⟨HO104, HB⟩ := n_; (try clear hb); (try clear hb2); (try clear hk); (try clear hi)))
   go_ret3
   exact ⟨zE, zB⟩
  replace c5 := Bool.eq_false_iff.mpr c5
  subst c5
  have H1 : (some (0, 0, 4)) = some (r1, r2, r3) := by rw [if_neg (show ¬ (false = true) by decide)] at H; exact H
  clear H
  have H := H1
  clear H1
  simp only [Option.some.injEq, Prod.mk.injEq] at H
  obtain ⟨rfl, rfl, rfl⟩ := H
  go_enter Try.func11, Try.ntmps11
  go_wp2_with (first | ((with_reducible refine gate_callee (f := 31) rfl ?_); refine goesL_ (some 12) rfl rfl Try.func31 zk rfl #[.slice A0 l0.length c0] rfl zA ?_; (with_reducible refine (spec_l07Given.calls k _ _ l0 t101 t102 _ ?side1 ?side2 A2.out).mono ?_); (case side1 => exact zC HR0.out); (case side2 => exact HC0.out); rintro e w9 ⟨v103, rfl, ho0, hb⟩; refine ⟨_, rfl, ?_⟩; have n_ := y2 (Kd.R_lower ho0 (below_size (zB))) (below_step (zB) hb); clear HB; obtain ⟨HO104, HB⟩ := n_; (try clear hb); (try clear hb2); (try clear hk); (try clear hi); (try clear ho0); obtain ⟨Ao10, co10, eo10⟩ := Kd.R_slice HO104.out; subst eo10) | ((with_reducible refine gate_callee (f := 33) rfl ?_); refine goesL_ (some 21) rfl rfl Try.func33 zk rfl #[.slice A0 l0.length c0, .slice Ao10 t101.length co10] rfl zA ?_; (with_reducible refine (spec_l07Best.calls k _ _ l0 _ _ t101 t105 t106 false _ ?side1 ?side2 ?side3 ?side4 A4.out).mono ?_); (case side1 => exact zC (Kd.C_below HR0.out HB.out)); (case side2 => exact HC0.out); (case side3 => exact zC (Kd.R_reads' HO104.out).2.2); (case side4 => exact (Kd.R_reads' HO104.out).2.1); rintro e w11 ⟨rfl, hb⟩; refine ⟨_, rfl, ?_⟩; have n_ := y2 (Kd.R_below (zR HO104.out) hb) (below_step (zB) hb); clear HO104 HB; obtain ⟨HO104, HB⟩ := n_; (try clear hb); (try clear hb2); (try clear hk); (try clear hi)))
  go_ret3
  exact ⟨zE, zB⟩
 rw [if_neg c3] at H
 have c3b0 : (t102 == 0) = false := beq_eq_false_iff_ne.mpr c3
 have c3b1 : (t102 != 0) = true := bne_iff_ne.mpr c3
 simp only [Option.some.injEq, Prod.mk.injEq] at H
 obtain ⟨rfl, rfl, rfl⟩ := H
 go_enter Try.func11, Try.ntmps11
 go_wp2_with (first | ((with_reducible refine gate_callee (f := 31) rfl ?_); refine goesL_ (some 12) rfl rfl Try.func31 zk rfl #[.slice A0 l0.length c0] rfl zA ?_; (with_reducible refine (spec_l07Given.calls k _ _ l0 t101 t102 _ ?side1 ?side2 A2.out).mono ?_); (case side1 => exact zC HR0.out); (case side2 => exact HC0.out); rintro e w12 ⟨v103, rfl, ho0, hb⟩; refine ⟨_, rfl, ?_⟩; have n_ := y2 (Kd.R_lower ho0 (below_size (zB))) (below_step (zB) hb); clear HB; obtain ⟨HO104, HB⟩ := n_; (try clear hb); (try clear hb2); (try clear hk); (try clear hi); (try clear ho0)))
 go_ret3
 exact ⟨zE, zB⟩
end Go.Proofs.Ytfmjckkgnieccaa.P
end
section
namespace Go.Proofs.Ytfmjckkgnieccaa.P
open Go.RowKit Go.Proofs.YtfmjckkgnieccaaW.PrintWords Go.Proofs.YtfmjckkgnieccaaW.PrintLast Go.Proofs.YtfmjckkgnieccaaW.PrintMore
attribute [local go_sem] max2_int min2_int max_two min_two max_three min_three max_four min_four   -- for this text's walks alone
set_option linter.unusedVariables false
set_option linter.unusedSimpArgs false
def laws_likeInts.l0 : Nat → List Int → List Int → Int → Option (Bool)
  | 0, _, _, _ => none
  | k + 1, x0, x1, x5 => if x5 < (x0.length : Int) then (if 0 ≤ x5 then (if x5 < (x1.length : Int) then (if (rd x0 x5) = (rd x1 x5) then (laws_likeInts.l0 k x0 x1 (wrap64 (x5 + 1))) else (some false)) else (none)) else (none)) else (some true)
def laws_likeInts.f (k : Nat) (l0 : List Int) (l1 : List Int) : Option (Bool) := if (l0.length : Int) = (l1.length : Int) then (laws_likeInts.l0 k l0 l1 0) else (some false)
theorem laws_likeInts.mono_l : ∀ k, (∀ y0 y1 y2, LeO (laws_likeInts.l0 k y0 y1 y2) (laws_likeInts.l0 (k + 1) y0 y1 y2))
  | 0 => fun _ _ _ r h => by simp [laws_likeInts.l0] at h
  | k + 1 => by
    have ih0 := laws_likeInts.mono_l k
    · intro y0 y1 y2
      unfold laws_likeInts.l0
      repeat' first | (with_reducible exact ih0 _ _ _) | (with_reducible exact LeO.refl _) | (with_reducible exact LeO.none _) | (with_reducible refine LeO.ite ?_ ?_) | (with_reducible refine LeO.bind ?_ (fun _ => ?_)) | exact ih0 _ _ _ | exact LeO.none _ | refine LeO.ite ?_ ?_ | refine LeO.bind ?_ (fun _ => ?_)
theorem laws_likeInts.mono : ∀ a0 a1 k, LeO (laws_likeInts.f k a0 a1) (laws_likeInts.f (k + 1) a0 a1) := by
  intro a0 a1 k
  have ih0 := laws_likeInts.mono_l k
  unfold laws_likeInts.f
  repeat' first | (with_reducible exact ih0 _ _ _) | (with_reducible exact LeO.refl _) | (with_reducible exact LeO.none _) | (with_reducible refine LeO.ite ?_ ?_) | (with_reducible refine LeO.bind ?_ (fun _ => ?_)) | exact ih0 _ _ _ | exact LeO.none _ | refine LeO.ite ?_ ?_ | refine LeO.bind ?_ (fun _ => ?_)
set_option maxHeartbeats 8000000 in
set_option maxRecDepth 100000 in
theorem laws_likeInts.calls (k : Nat) (A0 : Option Addr) (c0 : Nat) (l0 : List Int) (A1 : Option Addr) (c1 : Nat) (l1 : List Int) (r : Bool) (w : World) (hr0 : Kd.C (Kd.int .i64) w A0 l0.length l0) (hc0 : l0.length ≤ c0) (hr1 : Kd.C (Kd.int .i64) w A1 l1.length l1) (hc1 : l1.length ≤ c1) (h : laws_likeInts.f k l0 l1 = some r) :
    Calls Try.prog 12 #[.slice A0 l0.length c0, .slice A1 l1.length c1] w fun e w' => e = .returned (.bool r) ∧ Drawn0 w w' := by
 have HR0 := Aside0.mk hr0
 have HC0 := Aside0.mk hc0
 clear hr0 hc0
 have HR1 := Aside0.mk hr1
 have HC1 := Aside0.mk hc1
 clear hr1 hc1
 have H : (if (l0.length : Int) = (l1.length : Int) then (laws_likeInts.l0 k l0 l1 0) else (some false)) = some r := h
 clear h
 by_cases c3 : (l0.length : Int) = (l1.length : Int)
 ·
  rw [if_pos c3] at H
  have c3b0 : ((l0.length : Int) == (l1.length : Int)) = true := beq_iff_eq.mpr c3
  have c3b1 : ((l0.length : Int) != (l1.length : Int)) = false := bne_eq_false_iff_eq.mpr c3
  have c3b2 : (l0.length == l1.length) = true := by first | simpa using c3 | (simp at c3 ⊢; omega)
  clear c3
  have H' := Aside0.mk H
  clear H
  go_enter Try.func12, Try.ntmps12
  go_wp2
  repeat (go_quiet (fail); try go_wp2)
  go_loopg [5] k (fun kq v5 w' => ∃ (x5_1 : Int), v5 = .int .i64 x5_1 ∧ Aside0 (laws_likeInts.l0 kq l0 l1 x5_1 = some r) ∧ Aside0 (kq ≤ k) ∧ Drawn0 w w')
  case atStart => exact ⟨(0), zF, H', ⟨Nat.le_refl _⟩, by repeat (first | exact Drawn0.refl _ | apply Drawn0.step)⟩
  clear H'
  try clear c3
  try clear c3b0
  try clear c3b1
  try clear c3b2
  obtain ⟨x5_1, rfl, HA, HK1, ⟨m1, rfl⟩⟩ := hrel
  cases gk with
  | zero => exact absurd HA.out (by simp [laws_likeInts.l0])
  | succ k1 =>
    have H := HA.out
    clear HA
    simp only [laws_likeInts.l0] at H
    by_cases c4 : x5_1 < (l0.length : Int)
    · rw [if_pos c4] at H
      have c4b0 : decide (x5_1 < (l0.length : Int)) = true := decide_eq_true c4
      clear c4
      by_cases c5 : 0 ≤ x5_1
      · rw [if_pos c5] at H
        have c5b0 : decide (0 ≤ x5_1) = true := decide_eq_true c5
        clear c5
        by_cases c6 : x5_1 < (l1.length : Int)
        · rw [if_pos c6] at H
          have c6b0 : decide (x5_1 < (l1.length : Int)) = true := decide_eq_true c6
          clear c6
          by_cases c7 : (rd l0 x5_1) = (rd l1 x5_1)
          · rw [if_pos c7] at H
            have c7b0 : ((rd l0 x5_1) == (rd l1 x5_1)) = true := beq_iff_eq.mpr c7
            have c7b1 : ((rd l0 x5_1) != (rd l1 x5_1)) = false := bne_eq_false_iff_eq.mpr c7
            clear c7
            have H' := Aside0.mk H
            clear H
            have p101 : 0 ≤ (x5_1 : Int) := zD
            have q101 : x5_1 < (l0.length : Int) := zD
            obtain ⟨ad101, e101, hx101_0⟩ := Kd.at_int HR0.out x5_1 p101 q101
            cases e101
            replace p101 := eq_true p101
            replace q101 := eq_true q101
            have p102 : 0 ≤ (x5_1 : Int) := zD
            have q102 : x5_1 < (l1.length : Int) := zD
            obtain ⟨ad102, e102, hx102_0⟩ := Kd.at_int HR1.out x5_1 p102 q102
            cases e102
            replace p102 := eq_true p102
            replace q102 := eq_true q102
            go_wp2
            repeat (go_quiet (fail); try go_wp2)
            go_roundg k1
            case measure => have := HK1.out; omega
            case rel => exact ⟨(wrap64 (x5_1 + 1)), zF, H', ⟨by have := HK1.out; omega⟩, by repeat (first | exact Drawn0.refl _ | apply Drawn0.step)⟩
          · rw [if_neg c7] at H
            have c7b0 : ((rd l0 x5_1) == (rd l1 x5_1)) = false := beq_eq_false_iff_ne.mpr c7
            have c7b1 : ((rd l0 x5_1) != (rd l1 x5_1)) = true := bne_iff_ne.mpr c7
            obtain rfl := Option.some.inj H
            have p101 : 0 ≤ (x5_1 : Int) := zD
            have q101 : x5_1 < (l0.length : Int) := zD
            obtain ⟨ad101, e101, hx101_0⟩ := Kd.at_int HR0.out x5_1 p101 q101
            cases e101
            replace p101 := eq_true p101
            replace q101 := eq_true q101
            have p102 : 0 ≤ (x5_1 : Int) := zD
            have q102 : x5_1 < (l1.length : Int) := zD
            obtain ⟨ad102, e102, hx102_0⟩ := Kd.at_int HR1.out x5_1 p102 q102
            cases e102
            replace p102 := eq_true p102
            replace q102 := eq_true q102
            go_wp2
            repeat (go_quiet (fail); try go_wp2)
            go_ret
            exact ⟨by first | rfl | (simp; done) | (simp [*]; done), by repeat (first | exact Drawn0.refl _ | apply Drawn0.step)⟩
        · rw [if_neg c6] at H
          exact absurd H (by simp)
      · rw [if_neg c5] at H
        exact absurd H (by simp)
    · rw [if_neg c4] at H
      have c4b0 : decide (x5_1 < (l0.length : Int)) = false := decide_eq_false c4
      clear c4
      obtain rfl := Option.some.inj H
      go_wp2
      repeat (go_quiet (fail); try go_wp2)
      go_ret
      exact ⟨by first | rfl | (simp; done) | (simp [*]; done), by repeat (first | exact Drawn0.refl _ | apply Drawn0.step)⟩
 rw [if_neg c3] at H
 have c3b0 : ((l0.length : Int) == (l1.length : Int)) = false := beq_eq_false_iff_ne.mpr c3
 have c3b1 : ((l0.length : Int) != (l1.length : Int)) = true := bne_iff_ne.mpr c3
 have c3b2 : (l0.length == l1.length) = false := by first | simpa using c3 | (simp at c3 ⊢; omega)
 obtain rfl := Option.some.inj H
 go_enter Try.func12, Try.ntmps12
 go_wp2
 repeat (go_quiet (fail); try go_wp2)
 go_ret
 exact ⟨by first | rfl | (simp; done) | (simp [*]; done), by repeat (first | exact Drawn0.refl _ | apply Drawn0.step)⟩
end Go.Proofs.Ytfmjckkgnieccaa.P
end
section
namespace Go.Proofs.Ytfmjckkgnieccaa.P
open Go.RowKit Go.Proofs.YtfmjckkgnieccaaW.PrintWords Go.Proofs.YtfmjckkgnieccaaW.PrintLast Go.Proofs.YtfmjckkgnieccaaW.PrintMore
attribute [local go_sem] max2_int min2_int max_two min_two max_three min_three max_four min_four   -- for this text's walks alone
set_option linter.unusedVariables false
set_option linter.unusedSimpArgs false
def impl_ExchangeSlots.f (l0 : List Int) (a1 : Int) (a2 : Int) : Option (List Int × Int) := (impl_areTurns.f l0 8).bind fun t101 => (if t101 = true then ((impl_length_int64.f l0).bind fun t102 => ((impl_within.f a1 0 (wrap64 (t102 - 1))).bind fun t103 => (if t103 = true then ((impl_within.f a2 0 (wrap64 (t102 - 1))).bind fun t104 => (if t104 = true then ((impl_exchanged.f l0 a1 a2).bind fun t105 => (some (t105, 0))) else (some (([] : List Int), 2)))) else (some (([] : List Int), 2))))) else (some (([] : List Int), 2)))
set_option maxHeartbeats 8000000 in
set_option maxRecDepth 100000 in
theorem impl_ExchangeSlots.calls (A0 : Option Addr) (c0 : Nat) (l0 : List Int) (a1 : Int) (a2 : Int) (r1 : List Int) (r2 : Int) (w : World) (hr0 : Kd.C (Kd.int .i64) w A0 l0.length l0) (hc0 : l0.length ≤ c0) (h : impl_ExchangeSlots.f l0 a1 a2 = some (r1, r2)) :
    Calls Try.prog 13 #[.slice A0 l0.length c0, .int .i64 a1, .int .i64 a2] w fun e w' => ∃ v0_ : Value, e = .returned (.tuple #[v0_, .int .i64 r2]) ∧ Kd.R (Kd.int .i64) 2 w' w.heap.size (fun _ => True) v0_ r1 ∧ Below w.heap.size w w' := by
 have HR0 := Aside0.mk hr0
 have HC0 := Aside0.mk hc0
 clear hr0 hc0
 have HB := Aside0.mk (Below.refl w.heap.size w)
 have H : ((impl_areTurns.f l0 8).bind fun t101 => (if t101 = true then ((impl_length_int64.f l0).bind fun t102 => ((impl_within.f a1 0 (wrap64 (t102 - 1))).bind fun t103 => (if t103 = true then ((impl_within.f a2 0 (wrap64 (t102 - 1))).bind fun t104 => (if t104 = true then ((impl_exchanged.f l0 a1 a2).bind fun t105 => (some (t105, 0))) else (some (([] : List Int), 2)))) else (some (([] : List Int), 2))))) else (some (([] : List Int), 2)))) = some (r1, r2) := h
 clear h
 replace H := Option.bind_eq_some_iff.mp H
 obtain ⟨t101, A40, H⟩ := H
 replace H : (if t101 = true then ((impl_length_int64.f l0).bind fun t102 => ((impl_within.f a1 0 (wrap64 (t102 - 1))).bind fun t103 => (if t103 = true then ((impl_within.f a2 0 (wrap64 (t102 - 1))).bind fun t104 => (if t104 = true then ((impl_exchanged.f l0 a1 a2).bind fun t105 => (some (t105, 0))) else (some (([] : List Int), 2)))) else (some (([] : List Int), 2))))) else (some (([] : List Int), 2))) = some (r1, r2) := H
 have A4 := Aside0.mk A40
 clear A40
 by_cases c5 : t101 = true
 ·
  subst c5
  have H1 : ((impl_length_int64.f l0).bind fun t102 => ((impl_within.f a1 0 (wrap64 (t102 - 1))).bind fun t103 => (if t103 = true then ((impl_within.f a2 0 (wrap64 (t102 - 1))).bind fun t104 => (if t104 = true then ((impl_exchanged.f l0 a1 a2).bind fun t105 => (some (t105, 0))) else (some (([] : List Int), 2)))) else (some (([] : List Int), 2))))) = some (r1, r2) := by rw [if_pos rfl] at H; exact H
  clear H
  have H := H1
  clear H1
  replace H := Option.bind_eq_some_iff.mp H
  obtain ⟨t102, A60, H⟩ := H
  replace H : ((impl_within.f a1 0 (wrap64 (t102 - 1))).bind fun t103 => (if t103 = true then ((impl_within.f a2 0 (wrap64 (t102 - 1))).bind fun t104 => (if t104 = true then ((impl_exchanged.f l0 a1 a2).bind fun t105 => (some (t105, 0))) else (some (([] : List Int), 2)))) else (some (([] : List Int), 2)))) = some (r1, r2) := H
  have A6 := Aside0.mk A60
  clear A60
  replace H := Option.bind_eq_some_iff.mp H
  obtain ⟨t103, A70, H⟩ := H
  replace H : (if t103 = true then ((impl_within.f a2 0 (wrap64 (t102 - 1))).bind fun t104 => (if t104 = true then ((impl_exchanged.f l0 a1 a2).bind fun t105 => (some (t105, 0))) else (some (([] : List Int), 2)))) else (some (([] : List Int), 2))) = some (r1, r2) := H
  have A7 := Aside0.mk A70
  clear A70
  by_cases c8 : t103 = true
  ·
   subst c8
   have H1 : ((impl_within.f a2 0 (wrap64 (t102 - 1))).bind fun t104 => (if t104 = true then ((impl_exchanged.f l0 a1 a2).bind fun t105 => (some (t105, 0))) else (some (([] : List Int), 2)))) = some (r1, r2) := by rw [if_pos rfl] at H; exact H
   clear H
   have H := H1
   clear H1
   replace H := Option.bind_eq_some_iff.mp H
   obtain ⟨t104, A90, H⟩ := H
   replace H : (if t104 = true then ((impl_exchanged.f l0 a1 a2).bind fun t105 => (some (t105, 0))) else (some (([] : List Int), 2))) = some (r1, r2) := H
   have A9 := Aside0.mk A90
   clear A90
   by_cases c10 : t104 = true
   ·
    subst c10
    have H1 : ((impl_exchanged.f l0 a1 a2).bind fun t105 => (some (t105, 0))) = some (r1, r2) := by rw [if_pos rfl] at H; exact H
    clear H
    have H := H1
    clear H1
    replace H := Option.bind_eq_some_iff.mp H
    obtain ⟨t105, A110, H⟩ := H
    replace H : (some (t105, 0)) = some (r1, r2) := H
    have A11 := Aside0.mk A110
    clear A110
    simp only [Option.some.injEq, Prod.mk.injEq] at H
    obtain ⟨rfl, rfl⟩ := H
    go_enter Try.func13, Try.ntmps13
    go_wp2_with (first | ((with_reducible refine gate_callee (f := 37) rfl ?_); refine goesL_ (some 9) rfl rfl Try.func37 zk rfl #[.slice A0 l0.length c0, .int .i64 8] rfl zA ?_; (with_reducible refine (impl_areTurns.calls _ _ l0 8 true _ ?side1 ?side2 A4.out).mono ?_); (case side1 => exact zC HR0.out); (case side2 => exact HC0.out); rintro e w12 ⟨rfl, hb⟩; refine ⟨_, rfl, ?_⟩; replace HB := Aside0.mk (below_step (zB) hb); (try clear hb); (try clear hb2); (try clear hk); (try clear hi)) | (go_at_call 39; (with_reducible refine (impl_length_int64.calls _ _ l0 t102 _ ?side1 ?side2 A6.out).mono ?_); (case side1 => exact zC (Kd.C_below HR0.out HB.out)); (case side2 => exact HC0.out); rintro e w' ⟨rfl, ⟨nd, rfl⟩⟩) | (go_at_call 38; (with_reducible refine (impl_within.calls a1 0 (wrap64 (t102 - 1)) true _ A7.out).mono ?_); rintro e w' ⟨rfl, ⟨nd, rfl⟩⟩) | (go_at_call 38; (with_reducible refine (impl_within.calls a2 0 (wrap64 (t102 - 1)) true _ A9.out).mono ?_); rintro e w' ⟨rfl, ⟨nd, rfl⟩⟩) | ((with_reducible refine gate_callee (f := 30) rfl ?_); refine goesL_ (some 30) rfl rfl Try.func30 zk rfl #[.slice A0 l0.length c0, .int .i64 a1, .int .i64 a2] rfl zA ?_; (with_reducible refine (impl_exchanged.calls _ _ l0 a1 a2 t105 _ ?side1 ?side2 A11.out).mono ?_); (case side1 => exact zC (Kd.C_below HR0.out (zB))); (case side2 => exact HC0.out); rintro e w13 ⟨v106, rfl, ho0, hb⟩; refine ⟨_, rfl, ?_⟩; have n_ := y2 (Kd.R_lower ho0 (below_size (zB))) (below_step (zB) hb); clear HB; obtain ⟨HO107, HB⟩ := n_; (try clear hb); (try clear hb2); (try clear hk); (try clear hi); (try clear ho0)))
    go_ret2
    exact ⟨_, zE, zR HO107.out, zB⟩
   replace c10 := Bool.eq_false_iff.mpr c10
   subst c10
   have H1 : (some (([] : List Int), 2)) = some (r1, r2) := by rw [if_neg (show ¬ (false = true) by decide)] at H; exact H
   clear H
   have H := H1
   clear H1
   simp only [Option.some.injEq, Prod.mk.injEq] at H
   obtain ⟨rfl, rfl⟩ := H
   go_enter Try.func13, Try.ntmps13
   go_wp2_with (first | ((with_reducible refine gate_callee (f := 37) rfl ?_); refine goesL_ (some 9) rfl rfl Try.func37 zk rfl #[.slice A0 l0.length c0, .int .i64 8] rfl zA ?_; (with_reducible refine (impl_areTurns.calls _ _ l0 8 true _ ?side1 ?side2 A4.out).mono ?_); (case side1 => exact zC HR0.out); (case side2 => exact HC0.out); rintro e w14 ⟨rfl, hb⟩; refine ⟨_, rfl, ?_⟩; replace HB := Aside0.mk (below_step (zB) hb); (try clear hb); (try clear hb2); (try clear hk); (try clear hi)) | (go_at_call 39; (with_reducible refine (impl_length_int64.calls _ _ l0 t102 _ ?side1 ?side2 A6.out).mono ?_); (case side1 => exact zC (Kd.C_below HR0.out HB.out)); (case side2 => exact HC0.out); rintro e w' ⟨rfl, ⟨nd, rfl⟩⟩) | (go_at_call 38; (with_reducible refine (impl_within.calls a1 0 (wrap64 (t102 - 1)) true _ A7.out).mono ?_); rintro e w' ⟨rfl, ⟨nd, rfl⟩⟩) | (go_at_call 38; (with_reducible refine (impl_within.calls a2 0 (wrap64 (t102 - 1)) false _ A9.out).mono ?_); rintro e w' ⟨rfl, ⟨nd, rfl⟩⟩))
   go_ret2
   exact ⟨_, zE, zN, zB⟩
  replace c8 := Bool.eq_false_iff.mpr c8
  subst c8
  have H1 : (some (([] : List Int), 2)) = some (r1, r2) := by rw [if_neg (show ¬ (false = true) by decide)] at H; exact H
  clear H
  have H := H1
  clear H1
  simp only [Option.some.injEq, Prod.mk.injEq] at H
  obtain ⟨rfl, rfl⟩ := H
  go_enter Try.func13, Try.ntmps13
  go_wp2_with (first | ((with_reducible refine gate_callee (f := 37) rfl ?_); refine goesL_ (some 9) rfl rfl Try.func37 zk rfl #[.slice A0 l0.length c0, .int .i64 8] rfl zA ?_; (with_reducible refine (impl_areTurns.calls _ _ l0 8 true _ ?side1 ?side2 A4.out).mono ?_); (case side1 => exact zC HR0.out); (case side2 => exact HC0.out); rintro e w15 ⟨rfl, hb⟩; refine ⟨_, rfl, ?_⟩; replace HB := Aside0.mk (below_step (zB) hb); (try clear hb); (try clear hb2); (try clear hk); (try clear hi)) | (go_at_call 39; (with_reducible refine (impl_length_int64.calls _ _ l0 t102 _ ?side1 ?side2 A6.out).mono ?_); (case side1 => exact zC (Kd.C_below HR0.out HB.out)); (case side2 => exact HC0.out); rintro e w' ⟨rfl, ⟨nd, rfl⟩⟩) | (go_at_call 38; (with_reducible refine (impl_within.calls a1 0 (wrap64 (t102 - 1)) false _ A7.out).mono ?_); rintro e w' ⟨rfl, ⟨nd, rfl⟩⟩))
  go_ret2
  exact ⟨_, zE, zN, zB⟩
 replace c5 := Bool.eq_false_iff.mpr c5
 subst c5
 have H1 : (some (([] : List Int), 2)) = some (r1, r2) := by rw [if_neg (show ¬ (false = true) by decide)] at H; exact H
 clear H
 have H := H1
 clear H1
 simp only [Option.some.injEq, Prod.mk.injEq] at H
 obtain ⟨rfl, rfl⟩ := H
 go_enter Try.func13, Try.ntmps13
 go_wp2_with (first | ((with_reducible refine gate_callee (f := 37) rfl ?_); refine goesL_ (some 9) rfl rfl Try.func37 zk rfl #[.slice A0 l0.length c0, .int .i64 8] rfl zA ?_; (with_reducible refine (impl_areTurns.calls _ _ l0 8 false _ ?side1 ?side2 A4.out).mono ?_); (case side1 => exact zC HR0.out); (case side2 => exact HC0.out); rintro e w16 ⟨rfl, hb⟩; refine ⟨_, rfl, ?_⟩; replace HB := Aside0.mk (below_step (zB) hb); (try clear hb); (try clear hb2); (try clear hk); (try clear hi)))
 go_ret2
 exact ⟨_, zE, zN, zB⟩
end Go.Proofs.Ytfmjckkgnieccaa.P
end
section
namespace Go.Proofs.Ytfmjckkgnieccaa.P
open Go.RowKit Go.Proofs.YtfmjckkgnieccaaW.PrintWords Go.Proofs.YtfmjckkgnieccaaW.PrintLast Go.Proofs.YtfmjckkgnieccaaW.PrintMore
attribute [local go_sem] max2_int min2_int max_two min_two max_three min_three max_four min_four   -- for this text's walks alone
set_option linter.unusedVariables false
set_option linter.unusedSimpArgs false
def spec_l01Near.f (s0_0 : List Int) (s0_1 : Int) (s0_2 : Int) (a1 : Int) : Option (Int × Int × Int) := (spec_l01Next.f s0_0 s0_1 s0_2 14).bind fun bt101 => (if bt101.1 = 0 then ((spec_l01Pick.f s0_0 bt101.2.1 bt101.2.2 (([(-1), wrap64 (a1 + 1), 1099511627776, (-4611686018427387904)] : List Int))).bind fun bt107 => (some (bt107.1, bt107.2.1, bt107.2.2))) else ((spec_l01Next.f s0_0 bt101.2.1 bt101.2.2 (wrap64 (a1 + 1))).bind fun bt110 => (some (bt110.1, bt110.2.1, bt110.2.2))))
set_option maxHeartbeats 8000000 in
set_option maxRecDepth 100000 in
theorem spec_l01Near.calls (g : Nat) (s0_0 : List Int) (s0_1 : Int) (s0_2 : Int) (a1 : Int) (r1 : Int) (r2 : Int) (r3 : Int) (w0 w : World) (hI : IsS60 w0 w g s0_0 s0_1 s0_2) (hB : Below w0.heap.size w0 w) (h : spec_l01Near.f s0_0 s0_1 s0_2 a1 = some (r1, r2, r3)) :
    Calls Try.prog 40 #[.pointer (some ⟨g, 0, none⟩), .int .i64 a1] w fun e w' => e = .returned (.int .i64 r1) ∧ IsS60 w0 w' g s0_0 r2 r3 ∧ Below w0.heap.size w0 w' ∧ KeepBut w w' g none := by
 have HI0 := Aside0.mk hI
 have HK := Aside0.mk (KeepBut.refl w g none)
 have HL := Aside0.mk hB.size
 clear hI
 have HW0 := Aside0.mk hB.size
 have HB := Aside0.mk hB
 clear hB
 have H : ((spec_l01Next.f s0_0 s0_1 s0_2 14).bind fun bt101 => (if bt101.1 = 0 then ((spec_l01Pick.f s0_0 bt101.2.1 bt101.2.2 (([(-1), wrap64 (a1 + 1), 1099511627776, (-4611686018427387904)] : List Int))).bind fun bt107 => (some (bt107.1, bt107.2.1, bt107.2.2))) else ((spec_l01Next.f s0_0 bt101.2.1 bt101.2.2 (wrap64 (a1 + 1))).bind fun bt110 => (some (bt110.1, bt110.2.1, bt110.2.2))))) = some (r1, r2, r3) := h
 clear h
 replace H := Option.bind_eq_some_iff.mp H
 obtain ⟨⟨t101, t102, t103⟩, A30, H⟩ := H
 replace H : (if t101 = 0 then ((spec_l01Pick.f s0_0 t102 t103 (([(-1), wrap64 (a1 + 1), 1099511627776, (-4611686018427387904)] : List Int))).bind fun bt107 => (some (bt107.1, bt107.2.1, bt107.2.2))) else ((spec_l01Next.f s0_0 t102 t103 (wrap64 (a1 + 1))).bind fun bt110 => (some (bt110.1, bt110.2.1, bt110.2.2)))) = some (r1, r2, r3) := H
 have A3 := Aside0.mk A30
 clear A30
 by_cases c4 : t101 = 0
 ·
  rw [if_pos c4] at H
  have c4b0 : (t101 == 0) = true := beq_iff_eq.mpr c4
  have c4b1 : (t101 != 0) = false := bne_eq_false_iff_eq.mpr c4
  clear c4
  obtain ⟨y104, hy104⟩ : ∃ y_ : List Int, y_ = (([(-1), wrap64 (a1 + 1), 1099511627776, (-4611686018427387904)] : List Int)) := ⟨_, rfl⟩
  replace H : ((spec_l01Pick.f s0_0 t102 t103 y104).bind fun bt107 => (some (bt107.1, bt107.2.1, bt107.2.2))) = some (r1, r2, r3) := zH hy104
  have Ny104 := Aside0.mk hy104
  clear hy104
  replace H := Option.bind_eq_some_iff.mp H
  obtain ⟨⟨t107, t108, t109⟩, A50, H⟩ := H
  replace H : (some (t107, t108, t109)) = some (r1, r2, r3) := H
  have A5 := Aside0.mk A50
  clear A50
  simp only [Option.some.injEq, Prod.mk.injEq] at H
  obtain ⟨rfl, rfl, rfl⟩ := H
  go_enter Try.func40, Try.ntmps40
  go_wp2_with (first | ((with_reducible refine gate_callee (f := 55) rfl ?_); refine goesL_ (some 6) rfl rfl Try.func55 zk rfl #[.pointer (some ⟨g, 0, none⟩), .int .i64 14] rfl zA ?_; (with_reducible refine (spec_l01Next.calls g s0_0 s0_1 s0_2 14 t101 t102 t103 w0 _ ?side1 ?side2 A3.out).mono ?_); (case side1 => exact zI); (case side2 => exact zB); rintro e w6 ⟨rfl, hi, hb, hk⟩; refine ⟨_, rfl, ?_⟩; have n_ := y3 (KeepBut.trans (zK) hk (.inl rfl)) (hb) (hi); clear HK HB HI0; obtain ⟨HK, HB, HI0⟩ := n_; (try clear hb); (try clear hb2); (try clear hk); (try clear hi)) | ((with_reducible refine gate_dst (N := 11) rfl ?_); refine Kd.R_lit (Kd.int .i64) _ 2 ?hg (N := 11) ?hd (xs := ([(-1), wrap64 (a1 + 1), 1099511627776, (-4611686018427387904)] : List Int)) (inner := [.int .i64 (-1), .int .i64 (wrap64 (a1 + 1)), .int .i64 1099511627776, .int .i64 (-4611686018427387904)]) (ok := fun _ => True) (okp := fun _ => True) ?hr ?hp (fun _ hk => hk) trivial (Below.refl _ _) (Nat.le_refl _) (by simp) ?_; (case hd => rfl); (case hg => rfl); (case hr => first | (go_simp; done) | (go_simp; rfl)); (case hp => exact (Reps.one (show Kd.M (Kd.int .i64) _ _ _ (-1) [.int .i64 (-1)] from rfl) (Reps.one (show Kd.M (Kd.int .i64) _ _ _ (wrap64 (a1 + 1)) [.int .i64 (wrap64 (a1 + 1))] from rfl) (Reps.one (show Kd.M (Kd.int .i64) _ _ _ 1099511627776 [.int .i64 1099511627776] from rfl) (Reps.one (show Kd.M (Kd.int .i64) _ _ _ (-4611686018427387904) [.int .i64 (-4611686018427387904)] from rfl) (Reps.none _ _)))))); intro v105 w7 ho8 hb hg_ hnew_; clear hg_ hnew_; (first | rw [← Ny104.out] at ho8 | (simp only [Int.reduceToNat] at ho8; rw [← Ny104.out] at ho8)); have n_ := y4 (Kd.R_lower ho8 (keep_size (w := w) (g := g) (row := none) (zK))) (IsS60.below (zI) hb) (KeepBut.trans (zK) (KeepBut.of_below hb g none) (.inl rfl)) (below_step (zB) hb); clear HI0 HK HB; obtain ⟨HO106, HI0, HK, HB⟩ := n_; clear hb ho8; obtain ⟨Ao9, co9, eo9⟩ := Kd.R_slice HO106.out; subst eo9) | ((with_reducible refine gate_callee (f := 26) rfl ?_); refine goesL_ (some 12) rfl rfl Try.func26 zk rfl #[.pointer (some ⟨g, 0, none⟩), .slice Ao9 y104.length co9] rfl zA ?_; (with_reducible refine (spec_l01Pick.calls g s0_0 t102 t103 _ _ y104 t107 t108 t109 w0 _ ?side1 ?side2 ?side3 ?side4 ?side5 A5.out).mono ?_); (case side1 => exact zI); (case side2 => exact zB); (case side3 => exact zC (Kd.R_reads' HO106.out).2.2); (case side4 => exact (Kd.R_reads' HO106.out).2.1); (case side5 => exact far_slice (IsS60.own_ne HI0.out HO106.out (by decide))); rintro e w10 ⟨rfl, hi, hb, hk⟩; refine ⟨_, rfl, ?_⟩; have n_ := y4 (Kd.R_mono (Kd.R_keep (IsS60.apart (show IsS60 w0 _ g s0_0 t102 t103 from zI) (zR HO106.out) (by decide)) hk (fun _ h => h.2)) (fun _ h => h.1)) (KeepBut.trans (zK) hk (.inl rfl)) (hb) (hi); clear HO106 HK HB HI0; obtain ⟨HO106, HK, HB, HI0⟩ := n_; (try clear hb); (try clear hb2); (try clear hk); (try clear hi)))
  go_ret
  exact ⟨zE, zI, zB, zK⟩
 rw [if_neg c4] at H
 have c4b0 : (t101 == 0) = false := beq_eq_false_iff_ne.mpr c4
 have c4b1 : (t101 != 0) = true := bne_iff_ne.mpr c4
 replace H := Option.bind_eq_some_iff.mp H
 obtain ⟨⟨t110, t111, t112⟩, A110, H⟩ := H
 replace H : (some (t110, t111, t112)) = some (r1, r2, r3) := H
 have A11 := Aside0.mk A110
 clear A110
 simp only [Option.some.injEq, Prod.mk.injEq] at H
 obtain ⟨rfl, rfl, rfl⟩ := H
 go_enter Try.func40, Try.ntmps40
 go_wp2_with (first | ((with_reducible refine gate_callee (f := 55) rfl ?_); refine goesL_ (some 6) rfl rfl Try.func55 zk rfl #[.pointer (some ⟨g, 0, none⟩), .int .i64 14] rfl zA ?_; (with_reducible refine (spec_l01Next.calls g s0_0 s0_1 s0_2 14 t101 t102 t103 w0 _ ?side1 ?side2 A3.out).mono ?_); (case side1 => exact zI); (case side2 => exact zB); rintro e w12 ⟨rfl, hi, hb, hk⟩; refine ⟨_, rfl, ?_⟩; have n_ := y3 (KeepBut.trans (zK) hk (.inl rfl)) (hb) (hi); clear HK HB HI0; obtain ⟨HK, HB, HI0⟩ := n_; (try clear hb); (try clear hb2); (try clear hk); (try clear hi)) | ((with_reducible refine gate_callee (f := 55) rfl ?_); refine goesL_ (some 16) rfl rfl Try.func55 zk rfl #[.pointer (some ⟨g, 0, none⟩), .int .i64 (wrap64 (a1 + 1))] rfl zA ?_; (with_reducible refine (spec_l01Next.calls g s0_0 t102 t103 (wrap64 (a1 + 1)) t110 t111 t112 w0 _ ?side1 ?side2 A11.out).mono ?_); (case side1 => exact zI); (case side2 => exact zB); rintro e w13 ⟨rfl, hi, hb, hk⟩; refine ⟨_, rfl, ?_⟩; have n_ := y3 (KeepBut.trans (zK) hk (.inl rfl)) (hb) (hi); clear HK HB HI0; obtain ⟨HK, HB, HI0⟩ := n_; (try clear hb); (try clear hb2); (try clear hk); (try clear hi)))
 go_ret
 exact ⟨zE, zI, zB, zK⟩
end Go.Proofs.Ytfmjckkgnieccaa.P
end
section
namespace Go.Proofs.Ytfmjckkgnieccaa.P
open Go.RowKit Go.Proofs.YtfmjckkgnieccaaW.PrintWords Go.Proofs.YtfmjckkgnieccaaW.PrintLast Go.Proofs.YtfmjckkgnieccaaW.PrintMore
attribute [local go_sem] max2_int min2_int max_two min_two max_three min_three max_four min_four   -- for this text's walks alone
set_option linter.unusedVariables false
set_option linter.unusedSimpArgs false
def spec_DrawExchangeSlots.f (k : Nat) (l0 : List Int) : Option (List Int × Int × Int) := (spec_l01From.f k l0).bind fun bt101 => ((spec_l01Pick.f bt101.1 bt101.2.1 bt101.2.2 (([10, 30, 60] : List Int))).bind fun bt108 => ((spec_l07Draw.f k bt101.1 bt108.2.1 bt108.2.2 bt108.1).bind fun bt111 => ((spec_l01Near.f bt101.1 bt111.2.1 bt111.2.2 (mx (wrap64 ((bt111.1.length : Int) - 1)) 0)).bind fun bt116 => ((spec_l01Near.f bt101.1 bt116.2.1 bt116.2.2 (mx (wrap64 ((bt111.1.length : Int) - 1)) 0)).bind fun bt119 => (some (bt111.1, bt116.1, bt119.1))))))
theorem spec_DrawExchangeSlots.mono : ∀ a0 k, LeO (spec_DrawExchangeSlots.f k a0) (spec_DrawExchangeSlots.f (k + 1) a0) := by
  intro a0 k
  unfold spec_DrawExchangeSlots.f
  repeat' first | (with_reducible exact spec_l01From.mono _ _) | (with_reducible exact spec_l07Draw.mono _ _ _ _ _) | (with_reducible exact LeO.refl _) | (with_reducible exact LeO.none _) | (with_reducible refine LeO.ite ?_ ?_) | (with_reducible refine LeO.bind ?_ (fun _ => ?_)) | exact spec_l01From.mono _ _ | exact spec_l07Draw.mono _ _ _ _ _ | exact LeO.none _ | refine LeO.ite ?_ ?_ | refine LeO.bind ?_ (fun _ => ?_)
set_option maxHeartbeats 8000000 in
set_option maxRecDepth 100000 in
theorem spec_DrawExchangeSlots.calls (k : Nat) (A0 : Option Addr) (c0 : Nat) (l0 : List Int) (r1 : List Int) (r2 : Int) (r3 : Int) (w : World) (hr0 : Kd.C (Kd.int .u8) w A0 l0.length l0) (hc0 : l0.length ≤ c0) (h : spec_DrawExchangeSlots.f k l0 = some (r1, r2, r3)) :
    Calls Try.prog 14 #[.slice A0 l0.length c0] w fun e w' => ∃ v0_ : Value, e = .returned (.tuple #[v0_, .int .i64 r2, .int .i64 r3]) ∧ Kd.R (Kd.int .i64) 2 w' w.heap.size (fun _ => True) v0_ r1 ∧ Below w.heap.size w w' := by
 have HR0 := Aside0.mk hr0
 have HC0 := Aside0.mk hc0
 clear hr0 hc0
 have HB := Aside0.mk (Below.refl w.heap.size w)
 have H : ((spec_l01From.f k l0).bind fun bt101 => ((spec_l01Pick.f bt101.1 bt101.2.1 bt101.2.2 (([10, 30, 60] : List Int))).bind fun bt108 => ((spec_l07Draw.f k bt101.1 bt108.2.1 bt108.2.2 bt108.1).bind fun bt111 => ((spec_l01Near.f bt101.1 bt111.2.1 bt111.2.2 (mx (wrap64 ((bt111.1.length : Int) - 1)) 0)).bind fun bt116 => ((spec_l01Near.f bt101.1 bt116.2.1 bt116.2.2 (mx (wrap64 ((bt111.1.length : Int) - 1)) 0)).bind fun bt119 => (some (bt111.1, bt116.1, bt119.1))))))) = some (r1, r2, r3) := h
 clear h
 replace H := Option.bind_eq_some_iff.mp H
 obtain ⟨⟨t101, t102, t103⟩, A20, H⟩ := H
 replace H : ((spec_l01Pick.f t101 t102 t103 (([10, 30, 60] : List Int))).bind fun bt108 => ((spec_l07Draw.f k t101 bt108.2.1 bt108.2.2 bt108.1).bind fun bt111 => ((spec_l01Near.f t101 bt111.2.1 bt111.2.2 (mx (wrap64 ((bt111.1.length : Int) - 1)) 0)).bind fun bt116 => ((spec_l01Near.f t101 bt116.2.1 bt116.2.2 (mx (wrap64 ((bt111.1.length : Int) - 1)) 0)).bind fun bt119 => (some (bt111.1, bt116.1, bt119.1)))))) = some (r1, r2, r3) := H
 have A2 := Aside0.mk A20
 clear A20
 obtain ⟨y105, hy105⟩ : ∃ y_ : List Int, y_ = (([10, 30, 60] : List Int)) := ⟨_, rfl⟩
 replace H : ((spec_l01Pick.f t101 t102 t103 y105).bind fun bt108 => ((spec_l07Draw.f k t101 bt108.2.1 bt108.2.2 bt108.1).bind fun bt111 => ((spec_l01Near.f t101 bt111.2.1 bt111.2.2 (mx (wrap64 ((bt111.1.length : Int) - 1)) 0)).bind fun bt116 => ((spec_l01Near.f t101 bt116.2.1 bt116.2.2 (mx (wrap64 ((bt111.1.length : Int) - 1)) 0)).bind fun bt119 => (some (bt111.1, bt116.1, bt119.1)))))) = some (r1, r2, r3) := zH hy105
 have Ny105 := Aside0.mk hy105
 clear hy105
 replace H := Option.bind_eq_some_iff.mp H
 obtain ⟨⟨t108, t109, t110⟩, A30, H⟩ := H
 replace H : ((spec_l07Draw.f k t101 t109 t110 t108).bind fun bt111 => ((spec_l01Near.f t101 bt111.2.1 bt111.2.2 (mx (wrap64 ((bt111.1.length : Int) - 1)) 0)).bind fun bt116 => ((spec_l01Near.f t101 bt116.2.1 bt116.2.2 (mx (wrap64 ((bt111.1.length : Int) - 1)) 0)).bind fun bt119 => (some (bt111.1, bt116.1, bt119.1))))) = some (r1, r2, r3) := H
 have A3 := Aside0.mk A30
 clear A30
 replace H := Option.bind_eq_some_iff.mp H
 obtain ⟨⟨t111, t114, t115⟩, A40, H⟩ := H
 replace H : ((spec_l01Near.f t101 t114 t115 (mx (wrap64 ((t111.length : Int) - 1)) 0)).bind fun bt116 => ((spec_l01Near.f t101 bt116.2.1 bt116.2.2 (mx (wrap64 ((t111.length : Int) - 1)) 0)).bind fun bt119 => (some (t111, bt116.1, bt119.1)))) = some (r1, r2, r3) := H
 have A4 := Aside0.mk A40
 clear A40
 obtain ⟨ji5, hji5⟩ : ∃ j_ : Int, (mx (wrap64 ((t111.length : Int) - 1)) 0) = j_ := ⟨_, rfl⟩
 replace H : ((spec_l01Near.f t101 t114 t115 (ji5)).bind fun bt116 => ((spec_l01Near.f t101 bt116.2.1 bt116.2.2 (ji5)).bind fun bt119 => (some (t111, bt116.1, bt119.1)))) = some (r1, r2, r3) := by first | (rw [hji5] at H; exact H) | (simp only [hji5] at H ⊢; exact H)
 (try rw [hji5] at A2)
 (try rw [hji5] at A3)
 (try rw [hji5] at A4)
 (try (have hji5l : 0 ≤ ji5 := by (rw [← hji5]; unfold mx; (repeat' split) <;> omega)))
 (try (have hji5m : 0 ≤ ji5 := by omega))
 have hji5_ : (if (wrap64 ((t111.length : Int) - 1)) < 0 then 0 else (wrap64 ((t111.length : Int) - 1))) = ji5 := hji5
 replace H := Option.bind_eq_some_iff.mp H
 obtain ⟨⟨t116, t117, t118⟩, A60, H⟩ := H
 replace H : ((spec_l01Near.f t101 t117 t118 (ji5)).bind fun bt119 => (some (t111, t116, bt119.1))) = some (r1, r2, r3) := H
 have A6 := Aside0.mk A60
 clear A60
 replace H := Option.bind_eq_some_iff.mp H
 obtain ⟨⟨t119, t120, t121⟩, A70, H⟩ := H
 replace H : (some (t111, t116, t119)) = some (r1, r2, r3) := H
 have A7 := Aside0.mk A70
 clear A70
 simp only [Option.some.injEq, Prod.mk.injEq] at H
 obtain ⟨rfl, rfl, rfl⟩ := H
 go_enter Try.func14, Try.ntmps14
 go_wp2_with (first | ((with_reducible refine gate_callee (f := 24) rfl ?_); refine goesL_ (some 9) rfl rfl Try.func24 zk rfl #[.slice A0 l0.length c0] rfl zA ?_; (with_reducible refine (spec_l01From.calls k _ _ l0 t101 t102 t103 w _ ?side1 ?side2 ?side3 A2.out).mono ?_); (case side1 => exact zB); (case side2 => exact HR0.out); (case side3 => exact HC0.out); rintro e w8 ⟨g104, rfl, hi, hb, hb2⟩; refine ⟨_, rfl, ?_⟩; have n_ := y2 (hb) (hi); clear HB; obtain ⟨HB, HI104⟩ := n_; (try clear hb); (try clear hb2); (try clear hk); (try clear hi)) | ((with_reducible refine gate_dst (N := 12) rfl ?_); refine Kd.R_lit (Kd.int .i64) _ 2 ?hg (N := 12) ?hd (xs := ([10, 30, 60] : List Int)) (inner := [.int .i64 10, .int .i64 30, .int .i64 60]) (ok := fun _ => True) (okp := fun _ => True) ?hr ?hp (fun _ hk => hk) trivial (Below.refl _ _) (Nat.le_refl _) (by simp) ?_; (case hd => rfl); (case hg => rfl); (case hr => first | (go_simp; done) | (go_simp; rfl)); (case hp => exact (Reps.one (show Kd.M (Kd.int .i64) _ _ _ 10 [.int .i64 10] from rfl) (Reps.one (show Kd.M (Kd.int .i64) _ _ _ 30 [.int .i64 30] from rfl) (Reps.one (show Kd.M (Kd.int .i64) _ _ _ 60 [.int .i64 60] from rfl) (Reps.none _ _))))); intro v106 w9 ho10 hb hg_ hnew_; clear hg_ hnew_; (first | rw [← Ny105.out] at ho10 | (simp only [Int.reduceToNat] at ho10; rw [← Ny105.out] at ho10)); have n_ := y3 (Kd.R_lower ho10 (below_size (zB))) (IsS60.below (zX HI104.out) hb) (below_step (zB) hb); clear HI104 HB; obtain ⟨HO107, HI104, HB⟩ := n_; clear hb ho10; obtain ⟨Ao11, co11, eo11⟩ := Kd.R_slice HO107.out; subst eo11) | ((with_reducible refine gate_callee (f := 26) rfl ?_); refine goesL_ (some 13) rfl rfl Try.func26 zk rfl #[.pointer (some ⟨g104, 0, none⟩), .slice Ao11 y105.length co11] rfl zA ?_; (with_reducible refine (spec_l01Pick.calls g104 t101 t102 t103 _ _ y105 t108 t109 t110 w _ ?side1 ?side2 ?side3 ?side4 ?side5 A3.out).mono ?_); (case side1 => exact zX HI104.out); (case side2 => exact zB); (case side3 => exact zC (Kd.R_reads' HO107.out).2.2); (case side4 => exact (Kd.R_reads' HO107.out).2.1); (case side5 => exact far_slice (IsS60.own_ne HI104.out HO107.out (by decide))); rintro e w12 ⟨rfl, hi, hb, hk⟩; refine ⟨_, rfl, ?_⟩; have n_ := y3 (Kd.R_mono (Kd.R_keep (IsS60.apart (show IsS60 w _ g104 t101 t102 t103 from zX HI104.out) (zR HO107.out) (by decide)) hk (fun _ h => h.2)) (fun _ h => h.1)) (hb) (hi); clear HO107 HB HI104; obtain ⟨HO107, HB, HI104⟩ := n_; (try clear hb); (try clear hb2); (try clear hk); (try clear hi)) | ((with_reducible refine gate_callee (f := 25) rfl ?_); refine goesL_ (some 14) rfl rfl Try.func25 zk rfl #[.pointer (some ⟨g104, 0, none⟩), .int .i64 t108] rfl zA ?_; (with_reducible refine (spec_l07Draw.calls k g104 t101 t109 t110 t108 t111 t114 t115 w _ ?side1 ?side2 A4.out).mono ?_); (case side1 => exact zX HI104.out); (case side2 => exact zB); rintro e w13 ⟨v112, rfl, ho0, hi, hb, hk⟩; refine ⟨_, rfl, ?_⟩; have n_ := y4 (Kd.R_mono (Kd.R_told (Kd.R_oldK (IsS60.apart (show IsS60 w _ g104 t101 t109 t110 from zX HI104.out) (zR HO107.out) (by decide)) hk) (Kd.R_base ho0)) (fun _ h_ => h_.1)) (Kd.R_lower (Kd.R_new' ho0 (Kd.R_lt (zR HO107.out))) (below_size (zB))) (hb) (hi); clear HO107 HB HI104; obtain ⟨HO107, HO113, HB, HI104⟩ := n_; (try clear hb); (try clear hb2); (try clear hk); (try clear hi); (try clear ho0); obtain ⟨Ao14, co14, eo14⟩ := Kd.R_slice HO113.out; subst eo14) | ((with_reducible refine gate_callee (f := 40) rfl ?_); refine goesL_ (some 22) rfl rfl Try.func40 zk rfl #[.pointer (some ⟨g104, 0, none⟩), .int .i64 ji5] rfl (by (try simp only [List.map_toArray, List.map_cons, List.map_nil]); first | done | (simp only [hji5]; rfl) | rfl | (simp only [List.length_drop, List.length_take]; rfl)) ?_; (with_reducible refine (spec_l01Near.calls g104 t101 t114 t115 ji5 t116 t117 t118 w _ ?side1 ?side2 A6.out).mono ?_); (case side1 => exact zX HI104.out); (case side2 => exact zB); rintro e w15 ⟨rfl, hi, hb, hk⟩; refine ⟨_, rfl, ?_⟩; have n_ := y4 (Kd.R_mono (Kd.R_keep (IsS60.apart (show IsS60 w _ g104 t101 t114 t115 from zX HI104.out) (zR HO107.out) (by decide)) hk (fun _ h => h.2)) (fun _ h => h.1)) (Kd.R_mono (Kd.R_keep (IsS60.apart (show IsS60 w _ g104 t101 t114 t115 from zX HI104.out) (zR HO113.out) (by decide)) hk (fun _ h => h.2)) (fun _ h => h.1)) (hb) (hi); clear HO107 HO113 HB HI104; obtain ⟨HO107, HO113, HB, HI104⟩ := n_; (try clear hb); (try clear hb2); (try clear hk); (try clear hi)) | ((with_reducible refine gate_callee (f := 40) rfl ?_); refine goesL_ (some 25) rfl rfl Try.func40 zk rfl #[.pointer (some ⟨g104, 0, none⟩), .int .i64 ji5] rfl (by (try simp only [List.map_toArray, List.map_cons, List.map_nil]); first | done | (simp only [hji5]; rfl) | rfl | (simp only [List.length_drop, List.length_take]; rfl)) ?_; (with_reducible refine (spec_l01Near.calls g104 t101 t117 t118 ji5 t119 t120 t121 w _ ?side1 ?side2 A7.out).mono ?_); (case side1 => exact zX HI104.out); (case side2 => exact zB); rintro e w16 ⟨rfl, hi, hb, hk⟩; refine ⟨_, rfl, ?_⟩; have n_ := y4 (Kd.R_mono (Kd.R_keep (IsS60.apart (show IsS60 w _ g104 t101 t117 t118 from zX HI104.out) (zR HO107.out) (by decide)) hk (fun _ h => h.2)) (fun _ h => h.1)) (Kd.R_mono (Kd.R_keep (IsS60.apart (show IsS60 w _ g104 t101 t117 t118 from zX HI104.out) (zR HO113.out) (by decide)) hk (fun _ h => h.2)) (fun _ h => h.1)) (hb) (hi); clear HO107 HO113 HB HI104; obtain ⟨HO107, HO113, HB, HI104⟩ := n_; (try clear hb); (try clear hb2); (try clear hk); (try clear hi)))
 go_ret3
 exact ⟨_, by first | rfl | (simp [errW_none, errW_some] <;> rfl) | (simp only [← hji5]; first | rfl | (simp [errW_none, errW_some] <;> rfl)) | (simp [*, errW_none, errW_some] <;> rfl), by refine zR ?_; exact Kd.R_mono HO113.out (fun _ hk => trivial), zB⟩
end Go.Proofs.Ytfmjckkgnieccaa.P
end
section
namespace Go.Proofs.Ytfmjckkgnieccaa.P
open Go.RowKit Go.Proofs.YtfmjckkgnieccaaW.PrintWords Go.Proofs.YtfmjckkgnieccaaW.PrintLast Go.Proofs.YtfmjckkgnieccaaW.PrintMore
attribute [local go_sem] max2_int min2_int max_two min_two max_three min_three max_four min_four   -- for this text's walks alone
set_option linter.unusedVariables false
set_option linter.unusedSimpArgs false
def spec_ExchangeSlots.f (k : Nat) (l0 : List Int) (a1 : Int) (a2 : Int) : Option (List Int × Int) := (spec_l01Turns.f k l0 8).bind fun t101 => (if t101 = true then ((spec_l01In.f a1 0 (wrap64 ((l0.length : Int) - 1))).bind fun t102 => (if t102 = true then ((spec_l01In.f a2 0 (wrap64 ((l0.length : Int) - 1))).bind fun t103 => (if t103 = true then ((spec_l07Exchanged.f l0 a1 a2).bind fun t104 => (some (t104, 0))) else (some (([] : List Int), 2)))) else (some (([] : List Int), 2)))) else (some (([] : List Int), 2)))
theorem spec_ExchangeSlots.mono : ∀ a0 a1 a2 k, LeO (spec_ExchangeSlots.f k a0 a1 a2) (spec_ExchangeSlots.f (k + 1) a0 a1 a2) := by
  intro a0 a1 a2 k
  unfold spec_ExchangeSlots.f
  repeat' first | (with_reducible exact spec_l01Turns.mono _ _ _) | (with_reducible exact LeO.refl _) | (with_reducible exact LeO.none _) | (with_reducible refine LeO.ite ?_ ?_) | (with_reducible refine LeO.bind ?_ (fun _ => ?_)) | exact spec_l01Turns.mono _ _ _ | exact LeO.none _ | refine LeO.ite ?_ ?_ | refine LeO.bind ?_ (fun _ => ?_)
set_option maxHeartbeats 8000000 in
set_option maxRecDepth 100000 in
theorem spec_ExchangeSlots.calls (k : Nat) (A0 : Option Addr) (c0 : Nat) (l0 : List Int) (a1 : Int) (a2 : Int) (r1 : List Int) (r2 : Int) (w : World) (hr0 : Kd.C (Kd.int .i64) w A0 l0.length l0) (hc0 : l0.length ≤ c0) (h : spec_ExchangeSlots.f k l0 a1 a2 = some (r1, r2)) :
    Calls Try.prog 15 #[.slice A0 l0.length c0, .int .i64 a1, .int .i64 a2] w fun e w' => ∃ v0_ : Value, e = .returned (.tuple #[v0_, .int .i64 r2]) ∧ Kd.R (Kd.int .i64) 2 w' w.heap.size (fun _ => True) v0_ r1 ∧ Below w.heap.size w w' := by
 have HR0 := Aside0.mk hr0
 have HC0 := Aside0.mk hc0
 clear hr0 hc0
 have HB := Aside0.mk (Below.refl w.heap.size w)
 have H : ((spec_l01Turns.f k l0 8).bind fun t101 => (if t101 = true then ((spec_l01In.f a1 0 (wrap64 ((l0.length : Int) - 1))).bind fun t102 => (if t102 = true then ((spec_l01In.f a2 0 (wrap64 ((l0.length : Int) - 1))).bind fun t103 => (if t103 = true then ((spec_l07Exchanged.f l0 a1 a2).bind fun t104 => (some (t104, 0))) else (some (([] : List Int), 2)))) else (some (([] : List Int), 2)))) else (some (([] : List Int), 2)))) = some (r1, r2) := h
 clear h
 replace H := Option.bind_eq_some_iff.mp H
 obtain ⟨t101, A40, H⟩ := H
 replace H : (if t101 = true then ((spec_l01In.f a1 0 (wrap64 ((l0.length : Int) - 1))).bind fun t102 => (if t102 = true then ((spec_l01In.f a2 0 (wrap64 ((l0.length : Int) - 1))).bind fun t103 => (if t103 = true then ((spec_l07Exchanged.f l0 a1 a2).bind fun t104 => (some (t104, 0))) else (some (([] : List Int), 2)))) else (some (([] : List Int), 2)))) else (some (([] : List Int), 2))) = some (r1, r2) := H
 have A4 := Aside0.mk A40
 clear A40
 by_cases c5 : t101 = true
 ·
  subst c5
  have H1 : ((spec_l01In.f a1 0 (wrap64 ((l0.length : Int) - 1))).bind fun t102 => (if t102 = true then ((spec_l01In.f a2 0 (wrap64 ((l0.length : Int) - 1))).bind fun t103 => (if t103 = true then ((spec_l07Exchanged.f l0 a1 a2).bind fun t104 => (some (t104, 0))) else (some (([] : List Int), 2)))) else (some (([] : List Int), 2)))) = some (r1, r2) := by rw [if_pos rfl] at H; exact H
  clear H
  have H := H1
  clear H1
  replace H := Option.bind_eq_some_iff.mp H
  obtain ⟨t102, A60, H⟩ := H
  replace H : (if t102 = true then ((spec_l01In.f a2 0 (wrap64 ((l0.length : Int) - 1))).bind fun t103 => (if t103 = true then ((spec_l07Exchanged.f l0 a1 a2).bind fun t104 => (some (t104, 0))) else (some (([] : List Int), 2)))) else (some (([] : List Int), 2))) = some (r1, r2) := H
  have A6 := Aside0.mk A60
  clear A60
  by_cases c7 : t102 = true
  ·
   subst c7
   have H1 : ((spec_l01In.f a2 0 (wrap64 ((l0.length : Int) - 1))).bind fun t103 => (if t103 = true then ((spec_l07Exchanged.f l0 a1 a2).bind fun t104 => (some (t104, 0))) else (some (([] : List Int), 2)))) = some (r1, r2) := by rw [if_pos rfl] at H; exact H
   clear H
   have H := H1
   clear H1
   replace H := Option.bind_eq_some_iff.mp H
   obtain ⟨t103, A80, H⟩ := H
   replace H : (if t103 = true then ((spec_l07Exchanged.f l0 a1 a2).bind fun t104 => (some (t104, 0))) else (some (([] : List Int), 2))) = some (r1, r2) := H
   have A8 := Aside0.mk A80
   clear A80
   by_cases c9 : t103 = true
   ·
    subst c9
    have H1 : ((spec_l07Exchanged.f l0 a1 a2).bind fun t104 => (some (t104, 0))) = some (r1, r2) := by rw [if_pos rfl] at H; exact H
    clear H
    have H := H1
    clear H1
    replace H := Option.bind_eq_some_iff.mp H
    obtain ⟨t104, A100, H⟩ := H
    replace H : (some (t104, 0)) = some (r1, r2) := H
    have A10 := Aside0.mk A100
    clear A100
    simp only [Option.some.injEq, Prod.mk.injEq] at H
    obtain ⟨rfl, rfl⟩ := H
    go_enter Try.func15, Try.ntmps15
    go_wp2_with (first | ((with_reducible refine gate_callee (f := 41) rfl ?_); refine goesL_ (some 9) rfl rfl Try.func41 zk rfl #[.slice A0 l0.length c0, .int .i64 8] rfl zA ?_; (with_reducible refine (spec_l01Turns.calls k _ _ l0 8 true _ ?side1 ?side2 A4.out).mono ?_); (case side1 => exact zC HR0.out); (case side2 => exact HC0.out); rintro e w' ⟨rfl, ⟨nd, rfl⟩⟩; refine ⟨_, rfl, ?_⟩) | (go_at_call 42; (with_reducible refine (spec_l01In.calls a1 0 (wrap64 ((l0.length : Int) - 1)) true _ A6.out).mono ?_); rintro e w' ⟨rfl, ⟨nd, rfl⟩⟩) | (go_at_call 42; (with_reducible refine (spec_l01In.calls a2 0 (wrap64 ((l0.length : Int) - 1)) true _ A8.out).mono ?_); rintro e w' ⟨rfl, ⟨nd, rfl⟩⟩) | ((with_reducible refine gate_callee (f := 34) rfl ?_); refine goesL_ (some 30) rfl rfl Try.func34 zk rfl #[.slice A0 l0.length c0, .int .i64 a1, .int .i64 a2] rfl zA ?_; (with_reducible refine (spec_l07Exchanged.calls _ _ l0 a1 a2 t104 _ ?side1 ?side2 A10.out).mono ?_); (case side1 => exact zC HR0.out); (case side2 => exact HC0.out); rintro e w11 ⟨v105, rfl, ho0, hb⟩; refine ⟨_, rfl, ?_⟩; have n_ := y2 (Kd.R_lower ho0 (below_size (zB))) (below_step (zB) hb); clear HB; obtain ⟨HO106, HB⟩ := n_; (try clear hb); (try clear hb2); (try clear hk); (try clear hi); (try clear ho0)))
    go_ret2
    exact ⟨_, zE, zR HO106.out, zB⟩
   replace c9 := Bool.eq_false_iff.mpr c9
   subst c9
   have H1 : (some (([] : List Int), 2)) = some (r1, r2) := by rw [if_neg (show ¬ (false = true) by decide)] at H; exact H
   clear H
   have H := H1
   clear H1
   simp only [Option.some.injEq, Prod.mk.injEq] at H
   obtain ⟨rfl, rfl⟩ := H
   go_enter Try.func15, Try.ntmps15
   go_wp2_with (first | ((with_reducible refine gate_callee (f := 41) rfl ?_); refine goesL_ (some 9) rfl rfl Try.func41 zk rfl #[.slice A0 l0.length c0, .int .i64 8] rfl zA ?_; (with_reducible refine (spec_l01Turns.calls k _ _ l0 8 true _ ?side1 ?side2 A4.out).mono ?_); (case side1 => exact zC HR0.out); (case side2 => exact HC0.out); rintro e w' ⟨rfl, ⟨nd, rfl⟩⟩; refine ⟨_, rfl, ?_⟩) | (go_at_call 42; (with_reducible refine (spec_l01In.calls a1 0 (wrap64 ((l0.length : Int) - 1)) true _ A6.out).mono ?_); rintro e w' ⟨rfl, ⟨nd, rfl⟩⟩) | (go_at_call 42; (with_reducible refine (spec_l01In.calls a2 0 (wrap64 ((l0.length : Int) - 1)) false _ A8.out).mono ?_); rintro e w' ⟨rfl, ⟨nd, rfl⟩⟩))
   go_ret2
   exact ⟨_, zE, zN, zB⟩
  replace c7 := Bool.eq_false_iff.mpr c7
  subst c7
  have H1 : (some (([] : List Int), 2)) = some (r1, r2) := by rw [if_neg (show ¬ (false = true) by decide)] at H; exact H
  clear H
  have H := H1
  clear H1
  simp only [Option.some.injEq, Prod.mk.injEq] at H
  obtain ⟨rfl, rfl⟩ := H
  go_enter Try.func15, Try.ntmps15
  go_wp2_with (first | ((with_reducible refine gate_callee (f := 41) rfl ?_); refine goesL_ (some 9) rfl rfl Try.func41 zk rfl #[.slice A0 l0.length c0, .int .i64 8] rfl zA ?_; (with_reducible refine (spec_l01Turns.calls k _ _ l0 8 true _ ?side1 ?side2 A4.out).mono ?_); (case side1 => exact zC HR0.out); (case side2 => exact HC0.out); rintro e w' ⟨rfl, ⟨nd, rfl⟩⟩; refine ⟨_, rfl, ?_⟩) | (go_at_call 42; (with_reducible refine (spec_l01In.calls a1 0 (wrap64 ((l0.length : Int) - 1)) false _ A6.out).mono ?_); rintro e w' ⟨rfl, ⟨nd, rfl⟩⟩))
  go_ret2
  exact ⟨_, zE, zN, zB⟩
 replace c5 := Bool.eq_false_iff.mpr c5
 subst c5
 have H1 : (some (([] : List Int), 2)) = some (r1, r2) := by rw [if_neg (show ¬ (false = true) by decide)] at H; exact H
 clear H
 have H := H1
 clear H1
 simp only [Option.some.injEq, Prod.mk.injEq] at H
 obtain ⟨rfl, rfl⟩ := H
 go_enter Try.func15, Try.ntmps15
 go_wp2_with (first | ((with_reducible refine gate_callee (f := 41) rfl ?_); refine goesL_ (some 9) rfl rfl Try.func41 zk rfl #[.slice A0 l0.length c0, .int .i64 8] rfl zA ?_; (with_reducible refine (spec_l01Turns.calls k _ _ l0 8 false _ ?side1 ?side2 A4.out).mono ?_); (case side1 => exact zC HR0.out); (case side2 => exact HC0.out); rintro e w' ⟨rfl, ⟨nd, rfl⟩⟩; refine ⟨_, rfl, ?_⟩))
 go_ret2
 exact ⟨_, zE, zN, zB⟩
end Go.Proofs.Ytfmjckkgnieccaa.P
end
section
namespace Go.Proofs.Ytfmjckkgnieccaa.P
open Go.RowKit Go.Proofs.YtfmjckkgnieccaaW.PrintWords Go.Proofs.YtfmjckkgnieccaaW.PrintLast Go.Proofs.YtfmjckkgnieccaaW.PrintMore
attribute [local go_sem] max2_int min2_int max_two min_two max_three min_three max_four min_four   -- for this text's walks alone
set_option linter.unusedVariables false
set_option linter.unusedSimpArgs false
def spec_l07Any.f (k : Nat) (l0 : List Int) : Option (List Int) := (spec_l01From.f k l0).bind fun bt101 => ((spec_l01Pick.f bt101.1 bt101.2.1 bt101.2.2 (([10, 30, 60] : List Int))).bind fun bt108 => ((spec_l07Draw.f k bt101.1 bt108.2.1 bt108.2.2 bt108.1).bind fun bt111 => (some bt111.1)))
theorem spec_l07Any.mono : ∀ a0 k, LeO (spec_l07Any.f k a0) (spec_l07Any.f (k + 1) a0) := by
  intro a0 k
  unfold spec_l07Any.f
  repeat' first | (with_reducible exact spec_l01From.mono _ _) | (with_reducible exact spec_l07Draw.mono _ _ _ _ _) | (with_reducible exact LeO.refl _) | (with_reducible exact LeO.none _) | (with_reducible refine LeO.ite ?_ ?_) | (with_reducible refine LeO.bind ?_ (fun _ => ?_)) | exact spec_l01From.mono _ _ | exact spec_l07Draw.mono _ _ _ _ _ | exact LeO.none _ | refine LeO.ite ?_ ?_ | refine LeO.bind ?_ (fun _ => ?_)
set_option maxHeartbeats 8000000 in
set_option maxRecDepth 100000 in
theorem spec_l07Any.calls (k : Nat) (A0 : Option Addr) (c0 : Nat) (l0 : List Int) (r : List Int) (w : World) (hr0 : Kd.C (Kd.int .u8) w A0 l0.length l0) (hc0 : l0.length ≤ c0) (h : spec_l07Any.f k l0 = some r) :
    Calls Try.prog 43 #[.slice A0 l0.length c0] w fun e w' => ∃ v0_ : Value, e = .returned (v0_) ∧ Kd.R (Kd.int .i64) 2 w' w.heap.size (fun _ => True) v0_ r ∧ Below w.heap.size w w' := by
 have HR0 := Aside0.mk hr0
 have HC0 := Aside0.mk hc0
 clear hr0 hc0
 have HB := Aside0.mk (Below.refl w.heap.size w)
 have H : ((spec_l01From.f k l0).bind fun bt101 => ((spec_l01Pick.f bt101.1 bt101.2.1 bt101.2.2 (([10, 30, 60] : List Int))).bind fun bt108 => ((spec_l07Draw.f k bt101.1 bt108.2.1 bt108.2.2 bt108.1).bind fun bt111 => (some bt111.1)))) = some r := h
 clear h
 replace H := Option.bind_eq_some_iff.mp H
 obtain ⟨⟨t101, t102, t103⟩, A20, H⟩ := H
 replace H : ((spec_l01Pick.f t101 t102 t103 (([10, 30, 60] : List Int))).bind fun bt108 => ((spec_l07Draw.f k t101 bt108.2.1 bt108.2.2 bt108.1).bind fun bt111 => (some bt111.1))) = some r := H
 have A2 := Aside0.mk A20
 clear A20
 obtain ⟨y105, hy105⟩ : ∃ y_ : List Int, y_ = (([10, 30, 60] : List Int)) := ⟨_, rfl⟩
 replace H : ((spec_l01Pick.f t101 t102 t103 y105).bind fun bt108 => ((spec_l07Draw.f k t101 bt108.2.1 bt108.2.2 bt108.1).bind fun bt111 => (some bt111.1))) = some r := zH hy105
 have Ny105 := Aside0.mk hy105
 clear hy105
 replace H := Option.bind_eq_some_iff.mp H
 obtain ⟨⟨t108, t109, t110⟩, A30, H⟩ := H
 replace H : ((spec_l07Draw.f k t101 t109 t110 t108).bind fun bt111 => (some bt111.1)) = some r := H
 have A3 := Aside0.mk A30
 clear A30
 replace H := Option.bind_eq_some_iff.mp H
 obtain ⟨⟨t111, t114, t115⟩, A40, H⟩ := H
 replace H : (some t111) = some r := H
 have A4 := Aside0.mk A40
 clear A40
 obtain rfl := Option.some.inj H
 go_enter Try.func43, Try.ntmps43
 go_wp2_with (first | ((with_reducible refine gate_callee (f := 24) rfl ?_); refine goesL_ (some 5) rfl rfl Try.func24 zk rfl #[.slice A0 l0.length c0] rfl zA ?_; (with_reducible refine (spec_l01From.calls k _ _ l0 t101 t102 t103 w _ ?side1 ?side2 ?side3 A2.out).mono ?_); (case side1 => exact zB); (case side2 => exact HR0.out); (case side3 => exact HC0.out); rintro e w5 ⟨g104, rfl, hi, hb, hb2⟩; refine ⟨_, rfl, ?_⟩; have n_ := y2 (hb) (hi); clear HB; obtain ⟨HB, HI104⟩ := n_; (try clear hb); (try clear hb2); (try clear hk); (try clear hi)) | ((with_reducible refine gate_dst (N := 8) rfl ?_); refine Kd.R_lit (Kd.int .i64) _ 2 ?hg (N := 8) ?hd (xs := ([10, 30, 60] : List Int)) (inner := [.int .i64 10, .int .i64 30, .int .i64 60]) (ok := fun _ => True) (okp := fun _ => True) ?hr ?hp (fun _ hk => hk) trivial (Below.refl _ _) (Nat.le_refl _) (by simp) ?_; (case hd => rfl); (case hg => rfl); (case hr => first | (go_simp; done) | (go_simp; rfl)); (case hp => exact (Reps.one (show Kd.M (Kd.int .i64) _ _ _ 10 [.int .i64 10] from rfl) (Reps.one (show Kd.M (Kd.int .i64) _ _ _ 30 [.int .i64 30] from rfl) (Reps.one (show Kd.M (Kd.int .i64) _ _ _ 60 [.int .i64 60] from rfl) (Reps.none _ _))))); intro v106 w6 ho7 hb hg_ hnew_; clear hg_ hnew_; (first | rw [← Ny105.out] at ho7 | (simp only [Int.reduceToNat] at ho7; rw [← Ny105.out] at ho7)); have n_ := y3 (Kd.R_lower ho7 (below_size (zB))) (IsS60.below (zX HI104.out) hb) (below_step (zB) hb); clear HI104 HB; obtain ⟨HO107, HI104, HB⟩ := n_; clear hb ho7; obtain ⟨Ao8, co8, eo8⟩ := Kd.R_slice HO107.out; subst eo8) | ((with_reducible refine gate_callee (f := 26) rfl ?_); refine goesL_ (some 9) rfl rfl Try.func26 zk rfl #[.pointer (some ⟨g104, 0, none⟩), .slice Ao8 y105.length co8] rfl zA ?_; (with_reducible refine (spec_l01Pick.calls g104 t101 t102 t103 _ _ y105 t108 t109 t110 w _ ?side1 ?side2 ?side3 ?side4 ?side5 A3.out).mono ?_); (case side1 => exact zX HI104.out); (case side2 => exact zB); (case side3 => exact zC (Kd.R_reads' HO107.out).2.2); (case side4 => exact (Kd.R_reads' HO107.out).2.1); (case side5 => exact far_slice (IsS60.own_ne HI104.out HO107.out (by decide))); rintro e w9 ⟨rfl, hi, hb, hk⟩; refine ⟨_, rfl, ?_⟩; have n_ := y3 (Kd.R_mono (Kd.R_keep (IsS60.apart (show IsS60 w _ g104 t101 t102 t103 from zX HI104.out) (zR HO107.out) (by decide)) hk (fun _ h => h.2)) (fun _ h => h.1)) (hb) (hi); clear HO107 HB HI104; obtain ⟨HO107, HB, HI104⟩ := n_; (try clear hb); (try clear hb2); (try clear hk); (try clear hi)) | ((with_reducible refine gate_callee (f := 25) rfl ?_); refine goesL_ (some 10) rfl rfl Try.func25 zk rfl #[.pointer (some ⟨g104, 0, none⟩), .int .i64 t108] rfl zA ?_; (with_reducible refine (spec_l07Draw.calls k g104 t101 t109 t110 t108 t111 t114 t115 w _ ?side1 ?side2 A4.out).mono ?_); (case side1 => exact zX HI104.out); (case side2 => exact zB); rintro e w10 ⟨v112, rfl, ho0, hi, hb, hk⟩; refine ⟨_, rfl, ?_⟩; have n_ := y4 (Kd.R_mono (Kd.R_told (Kd.R_oldK (IsS60.apart (show IsS60 w _ g104 t101 t109 t110 from zX HI104.out) (zR HO107.out) (by decide)) hk) (Kd.R_base ho0)) (fun _ h_ => h_.1)) (Kd.R_lower (Kd.R_new' ho0 (Kd.R_lt (zR HO107.out))) (below_size (zB))) (hb) (hi); clear HO107 HB HI104; obtain ⟨HO107, HO113, HB, HI104⟩ := n_; (try clear hb); (try clear hb2); (try clear hk); (try clear hi); (try clear ho0)))
 go_ret
 exact ⟨_, zE, by refine zR ?_; exact Kd.R_mono HO113.out (fun _ hk => trivial), zB⟩
end Go.Proofs.Ytfmjckkgnieccaa.P
end
section
namespace Go.Proofs.Ytfmjckkgnieccaa.P
open Go.RowKit Go.Proofs.YtfmjckkgnieccaaW.PrintWords Go.Proofs.YtfmjckkgnieccaaW.PrintLast Go.Proofs.YtfmjckkgnieccaaW.PrintMore
attribute [local go_sem] max2_int min2_int max_two min_two max_three min_three max_four min_four   -- for this text's walks alone
set_option linter.unusedVariables false
set_option linter.unusedSimpArgs false
def spec_DrawSpreadsOf.f (k : Nat) (l0 : List Int) : Option (List Int) := (spec_l07Any.f k l0).bind fun t101 => (some t101)
theorem spec_DrawSpreadsOf.mono : ∀ a0 k, LeO (spec_DrawSpreadsOf.f k a0) (spec_DrawSpreadsOf.f (k + 1) a0) := by
  intro a0 k
  unfold spec_DrawSpreadsOf.f
  repeat' first | (with_reducible exact spec_l07Any.mono _ _) | (with_reducible exact LeO.refl _) | (with_reducible exact LeO.none _) | (with_reducible refine LeO.ite ?_ ?_) | (with_reducible refine LeO.bind ?_ (fun _ => ?_)) | exact spec_l07Any.mono _ _ | exact LeO.none _ | refine LeO.ite ?_ ?_ | refine LeO.bind ?_ (fun _ => ?_)
set_option maxHeartbeats 8000000 in
set_option maxRecDepth 100000 in
theorem spec_DrawSpreadsOf.calls (k : Nat) (A0 : Option Addr) (c0 : Nat) (l0 : List Int) (r : List Int) (w : World) (hr0 : Kd.C (Kd.int .u8) w A0 l0.length l0) (hc0 : l0.length ≤ c0) (h : spec_DrawSpreadsOf.f k l0 = some r) :
    Calls Try.prog 16 #[.slice A0 l0.length c0] w fun e w' => ∃ v0_ : Value, e = .returned (v0_) ∧ Kd.R (Kd.int .i64) 2 w' w.heap.size (fun _ => True) v0_ r ∧ Below w.heap.size w w' := by
 have HR0 := Aside0.mk hr0
 have HC0 := Aside0.mk hc0
 clear hr0 hc0
 have HB := Aside0.mk (Below.refl w.heap.size w)
 have H : ((spec_l07Any.f k l0).bind fun t101 => (some t101)) = some r := h
 clear h
 replace H := Option.bind_eq_some_iff.mp H
 obtain ⟨t101, A20, H⟩ := H
 replace H : (some t101) = some r := H
 have A2 := Aside0.mk A20
 clear A20
 obtain rfl := Option.some.inj H
 go_enter Try.func16, Try.ntmps16
 go_wp2_with (first | ((with_reducible refine gate_callee (f := 43) rfl ?_); refine goesL_ (some 4) rfl rfl Try.func43 zk rfl #[.slice A0 l0.length c0] rfl zA ?_; (with_reducible refine (spec_l07Any.calls k _ _ l0 t101 _ ?side1 ?side2 A2.out).mono ?_); (case side1 => exact zC HR0.out); (case side2 => exact HC0.out); rintro e w3 ⟨v102, rfl, ho0, hb⟩; refine ⟨_, rfl, ?_⟩; have n_ := y2 (Kd.R_lower ho0 (below_size (zB))) (below_step (zB) hb); clear HB; obtain ⟨HO103, HB⟩ := n_; (try clear hb); (try clear hb2); (try clear hk); (try clear hi); (try clear ho0)))
 go_ret
 exact ⟨_, zE, zR HO103.out, zB⟩
end Go.Proofs.Ytfmjckkgnieccaa.P
end
section
namespace Go.Proofs.Ytfmjckkgnieccaa.P
open Go.RowKit Go.Proofs.YtfmjckkgnieccaaW.PrintWords Go.Proofs.YtfmjckkgnieccaaW.PrintLast Go.Proofs.YtfmjckkgnieccaaW.PrintMore
attribute [local go_sem] max2_int min2_int max_two min_two max_three min_three max_four min_four   -- for this text's walks alone
set_option linter.unusedVariables false
set_option linter.unusedSimpArgs false
mutual
def impl_waits.l0 : Nat → List Int → Int → List Int → List Int → Int → Int → Option (List Int)
  | 0, _, _, _, _, _, _ => none
  | k + 1, x0, x1, x5, x11, x12, x13 => if x13 < x12 then (if 0 ≤ x13 then (if x13 < (x11.length : Int) then (if (rd x11 x13) = x1 then (if x5.length < 17592186044416 then (impl_waits.l0 k x0 x1 (x5 ++ [x13]) x11 x12 (wrap64 (x13 + 1))) else (none)) else (impl_waits.l0 k x0 x1 x5 x11 x12 (wrap64 (x13 + 1)))) else (none)) else (none)) else (impl_waits.l1 k x0 x5 ([] : List Int) x5 (x5.length : Int) 0)
def impl_waits.l1 : Nat → List Int → List Int → List Int → List Int → Int → Int → Option (List Int)
  | 0, _, _, _, _, _, _ => none
  | k + 1, x0, x5, x6, x26, x27, x28 => if x28 < x27 then (if 0 ≤ x28 then (if x28 < (x26.length : Int) then (if (wrap64 (x28 + 1)) < (x5.length : Int) then (if 0 ≤ (wrap64 (x28 + 1)) then (if x6.length < 17592186044416 then (impl_waits.l1 k x0 x5 (x6 ++ [wrap64 ((rd x5 (wrap64 (x28 + 1))) - (rd x26 x28))]) x26 x27 (wrap64 (x28 + 1))) else (none)) else (none)) else (if 0 < (x5.length : Int) then ((impl_length_int64.f x0).bind fun t111 => (if x6.length < 17592186044416 then (impl_waits.l1 k x0 x5 (x6 ++ [wrap64 ((wrap64 ((rd x5 0) + t111)) - (rd x26 x28))]) x26 x27 (wrap64 (x28 + 1))) else (none))) else (none))) else (none)) else (none)) else (some x6)
end
def impl_waits.f (k : Nat) (l0 : List Int) (a1 : Int) : Option (List Int) := impl_waits.l0 k l0 a1 ([] : List Int) l0 (l0.length : Int) 0
theorem impl_waits.mono_l : ∀ k, (∀ y0 y1 y2 y3 y4 y5, LeO (impl_waits.l0 k y0 y1 y2 y3 y4 y5) (impl_waits.l0 (k + 1) y0 y1 y2 y3 y4 y5)) ∧ (∀ y0 y1 y2 y3 y4 y5, LeO (impl_waits.l1 k y0 y1 y2 y3 y4 y5) (impl_waits.l1 (k + 1) y0 y1 y2 y3 y4 y5))
  | 0 => ⟨fun _ _ _ _ _ _ r h => by simp [impl_waits.l0] at h, fun _ _ _ _ _ _ r h => by simp [impl_waits.l1] at h⟩
  | k + 1 => by
    obtain ⟨ih0, ih1⟩ := impl_waits.mono_l k
    refine ⟨?_, ?_⟩ <;> intros <;> (first | unfold impl_waits.l0 | unfold impl_waits.l1) <;> repeat' first | (with_reducible exact ih0 _ _ _ _ _ _) | (with_reducible exact ih1 _ _ _ _ _ _) | (with_reducible exact LeO.refl _) | (with_reducible exact LeO.none _) | (with_reducible refine LeO.ite ?_ ?_) | (with_reducible refine LeO.bind ?_ (fun _ => ?_)) | exact ih0 _ _ _ _ _ _ | exact ih1 _ _ _ _ _ _ | exact LeO.none _ | refine LeO.ite ?_ ?_ | refine LeO.bind ?_ (fun _ => ?_)
theorem impl_waits.mono : ∀ a0 a1 k, LeO (impl_waits.f k a0 a1) (impl_waits.f (k + 1) a0 a1) := by
  intro a0 a1 k
  obtain ⟨ih0, ih1⟩ := impl_waits.mono_l k
  unfold impl_waits.f
  repeat' first | (with_reducible exact ih0 _ _ _ _ _ _) | (with_reducible exact ih1 _ _ _ _ _ _) | (with_reducible exact LeO.refl _) | (with_reducible exact LeO.none _) | (with_reducible refine LeO.ite ?_ ?_) | (with_reducible refine LeO.bind ?_ (fun _ => ?_)) | exact ih0 _ _ _ _ _ _ | exact ih1 _ _ _ _ _ _ | exact LeO.none _ | refine LeO.ite ?_ ?_ | refine LeO.bind ?_ (fun _ => ?_)
def impl_waits.T13 : Bool × List (List Nat × List Nat) := (true, [([], []), ([], []), ([1], [1]), ([2], [2]), ([], []), ([4], [4]), ([3, 5], [3, 5]), ([], []), ([6, 7], [6, 7]), ([8], [8]), ([0, 9, 5], [0, 9]), ([10, 10, 0, 1, 2, 3, 4, 5, 6, 7, 8, 9, 10], [0, 10])])
def impl_waits.B13 : List Nat := [0, 0, 2, 6, 0, 16, 62, 0, 254, 510, 1023, 2047]
theorem impl_waits.tab13 : rtab .any (opsOf Try.f45 13) = impl_waits.T13 := by kernel_rfl
theorem impl_waits.bits13 : waitsOk impl_waits.T13.2 impl_waits.B13 = true := by kernel_rfl
end Go.Proofs.Ytfmjckkgnieccaa.P
end
