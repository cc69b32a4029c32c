/- Exchanges go back, best exchanges give less squares, smooth turns have no more squares and no better exchange, and spreads are told by waits. -/
import Derived.Test.YtfmjckkgnieccaaCFnExchanges2
section
namespace Go.Proofs.Ytfmjckkgnieccaa.P
open Go.RowKit Go.Proofs.YtfmjckkgnieccaaW.PrintWords Go.Proofs.YtfmjckkgnieccaaW.PrintLast Go.Proofs.YtfmjckkgnieccaaW.PrintMore
attribute [local go_sem] max2_int min2_int max_two min_two max_three min_three max_four min_four   -- for this text's walks alone
set_option linter.unusedVariables false
set_option linter.unusedSimpArgs false
set_option maxHeartbeats 8000000 in
set_option maxRecDepth 100000 in
theorem spec_GreedyTurns.calls (k : Nat) (A0 : Option Addr) (c0 : Nat) (l0 : List Int) (r1 : List Int) (r2 : Int) (w : World) (hr0 : Kd.C (Kd.int .i64) w A0 l0.length l0) (hc0 : l0.length ≤ c0) (h : spec_GreedyTurns.f k l0 = some (r1, r2)) :
    Calls Try.prog 56 #[.slice A0 l0.length c0] w fun e w' => ∃ v0_ : Value, e = .returned (.tuple #[v0_, .int .i64 r2]) ∧ Kd.R (Kd.int .i64) 2 w' w.heap.size (fun _ => True) v0_ r1 ∧ Below w.heap.size w w' := by
 have HR0 := Aside0.mk hr0
 have HC0 := Aside0.mk hc0
 clear hr0 hc0
 have HB := Aside0.mk (Below.refl w.heap.size w)
 have H : ((spec_l07Sum.f k l0).bind fun t101 => (if t101 = 0 then (some (([] : List Int), 2)) else (if 0 ≤ (l0.length : Int) then (if ((l0.length : Int) : Int).toNat ≤ 35184372088832 then (spec_GreedyTurns.l0 k l0 t101 (([] : List Int)) (List.replicate ((l0.length : Int) : Int).toNat 0) 0) else (none)) else (none)))) = some (r1, r2) := h
 clear h
 replace H := Option.bind_eq_some_iff.mp H
 obtain ⟨t101, A20, H⟩ := H
 replace H : (if t101 = 0 then (some (([] : List Int), 2)) else (if 0 ≤ (l0.length : Int) then (if ((l0.length : Int) : Int).toNat ≤ 35184372088832 then (spec_GreedyTurns.l0 k l0 t101 (([] : List Int)) (List.replicate ((l0.length : Int) : Int).toNat 0) 0) else (none)) else (none))) = some (r1, r2) := H
 have A2 := Aside0.mk A20
 clear A20
 by_cases c3 : t101 = 0
 ·
  rw [if_pos c3] at H
  have c3b0 : (t101 == 0) = true := beq_iff_eq.mpr c3
  have c3b1 : (t101 != 0) = false := bne_eq_false_iff_eq.mpr c3
  clear c3
  simp only [Option.some.injEq, Prod.mk.injEq] at H
  obtain ⟨rfl, rfl⟩ := H
  go_enter Try.func56, Try.ntmps56
  go_wp2_with (first | ((with_reducible refine gate_callee (f := 67) rfl ?_); refine goesL_ (some 11) rfl rfl Try.func67 zk rfl #[.slice A0 l0.length c0] rfl zA ?_; (with_reducible refine (spec_l07Sum.calls k _ _ l0 t101 _ ?side1 ?side2 A2.out).mono ?_); (case side1 => exact zC HR0.out); (case side2 => exact HC0.out); rintro e w' ⟨rfl, ⟨nd, rfl⟩⟩; refine ⟨_, rfl, ?_⟩))
  go_ret2
  exact ⟨_, zE, zN, zB⟩
 rw [if_neg c3] at H
 have c3b0 : (t101 == 0) = false := beq_eq_false_iff_ne.mpr c3
 have c3b1 : (t101 != 0) = true := bne_iff_ne.mpr c3
 obtain ⟨y102, hy102⟩ : ∃ y_ : List Int, y_ = (([] : List Int)) := ⟨_, rfl⟩
 replace H : (if 0 ≤ (l0.length : Int) then (if ((l0.length : Int) : Int).toNat ≤ 35184372088832 then (spec_GreedyTurns.l0 k l0 t101 y102 (List.replicate ((l0.length : Int) : Int).toNat 0) 0) else (none)) else (none)) = some (r1, r2) := zH hy102
 have Ny102 := Aside0.mk hy102
 clear hy102
 by_cases c4 : 0 ≤ (l0.length : Int)
 case neg => rw [if_neg c4] at H; exact absurd H (by simp)
 rw [if_pos c4] at H
 have c4b0 := eq_true c4
 have c4b1 : decide (0 ≤ (l0.length : Int)) = true := decide_eq_true c4
 clear c4
 by_cases c5 : ((l0.length : Int) : Int).toNat ≤ 35184372088832
 case neg => rw [if_neg c5] at H; exact absurd H (by simp)
 rw [if_pos c5] at H
 have c5b0 := eq_true c5
 have c5b1 : decide (((l0.length : Int) : Int).toNat ≤ 35184372088832) = true := decide_eq_true c5
 clear c5
 obtain ⟨y105, hy105⟩ : ∃ y_ : List Int, y_ = (List.replicate ((l0.length : Int) : Int).toNat 0) := ⟨_, rfl⟩
 replace H : (spec_GreedyTurns.l0 k l0 t101 y102 y105 0) = some (r1, r2) := zH hy105
 have Ny105 := Aside0.mk hy105
 clear hy105
 have H' := Aside0.mk H
 clear H
 go_enter Try.func56, Try.ntmps56
 try go_wp2_with (first | ((with_reducible refine gate_callee (f := 67) rfl ?_); refine goesL_ (some 11) rfl rfl Try.func67 zk rfl #[.slice A0 l0.length c0] rfl zA ?_; (with_reducible refine (spec_l07Sum.calls k _ _ l0 t101 _ ?side1 ?side2 A2.out).mono ?_); (case side1 => exact zC HR0.out); (case side2 => exact HC0.out); rintro e w' ⟨rfl, ⟨nd, rfl⟩⟩; refine ⟨_, rfl, ?_⟩))
 replace HB := Aside0.mk (below_drew1 (pw_below_drewN HB.out nd))
 refine start_ (n := 6) (S := fun w' => True) (ds := []) #[false,false,false,false,false,false] zk rfl rfl trivial (fun hHeld => ?_)
 generalize (w.drewN nd).drew = w6 at HB hHeld ⊢
 refine pure_ (i := 1) (N := some 15) (v := ?_) (a' := ?_) #[false,true,false,false,false,false] rfl rfl zk (fun _ _ _ h => h) (Or.inl ⟨by rfl, ?_⟩) ?_ ?_
 rotate_left; exact zp; rotate_left; exact zq
 refine pure_ (i := 2) (N := some 16) (v := ?_) (a' := ?_) #[false,true,true,false,false,false] rfl rfl zk (fun _ _ _ h => h) (Or.inl ⟨by rfl, ?_⟩) ?_ ?_
 rotate_left; exact zp; rotate_left; exact zq
 refine join_ (σ := Value × Value) 1 #[true,true,true,true,true,false] (fun s_ => [(14, s_.1), (17, s_.2), (5, s_.1)]) (fun s_ w' => (Kd.R (Kd.int .i64) 2 w' w.heap.size (fun k_ => some k_ ≠ (s_.2 : Value).ownBlock) s_.1 y102) ∧ (Kd.R (Kd.int .i64) 2 w' w.heap.size (fun k_ => some k_ ≠ (s_.1 : Value).ownBlock) s_.2 y105) ∧ (Below w.heap.size w w')) ?_ ?_
 rotate_left
 ·
  intro hCont
  refine two_ (i := 0) (j := 3) (Ni := some 14) (Nj := some 17) #[true,true,true,false,false,false] #[false,true,true,true,false,false] rfl rfl rfl rfl zk (by decide) (by decide) (fun K hK => ?_) (fun K hK => ?_)
  ·
   skip
   refine Kd.R_lit_step (Kd.int .i64) _ 2 ?hg (N := 14) ?hd (xs := ([] : List Int)) (inner := []) (ok := fun _ => True) (okp := fun _ => True) ?hr ?hp (fun _ hk => hk) trivial (Below.refl _ _) (Nat.le_refl _) (by simp) ?_; (case hd => rfl); (case hg => rfl); (case hr => first | (go_simp; done) | (go_simp; rfl)); (case hp => exact (Reps.none _ _))
   intro v103 w7 ho8 hb hg_ hnew_
   clear hg_ hnew_
   (first | rw [← Ny102.out] at ho8 | (simp only [Int.reduceToNat] at ho8; rw [← Ny102.out] at ho8))
   have n_ := y2 (Kd.R_lower ho8 (below_size (zB))) (below_step (zB) hb)
   clear HB
   obtain ⟨HO104, HB⟩ := n_
   clear hb ho8
   refine hK.out _ _ trivial (fun hHeld => ?_)
   clear hK K
   refine norm_ (a' := ?_) ?_ ?_
   rotate_left
   ·
    show Act.put _ (some 14) _ = _
    simp only [Act.put, List.setIfInBounds_toArray, List.set_cons_zero, List.set_cons_succ, i64_w, i32_w]
    rfl
   refine pure_ (i := 4) (N := some 5) (v := ?_) (a' := ?_) #[true,true,true,false,true,false] rfl rfl zk (fun _ _ _ h => h) (Or.inl ⟨by rfl, ?_⟩) ?_ ?_
   rotate_left; exact zp; rotate_left; exact zq
   refine one_ (i := 3) (N := some 17) #[true,true,true,true,true,false] rfl rfl zk (by decide) (fun K hK => ?_)
   refine Kd.R_make_step (Kd.int .i64) _ 2 (by rfl) (N := 17) rfl 24 _ _ rfl (l0.length : Int) rfl rfl Try.underlying24 (.int .i64 0) 8 info2 rfl (by decide) (by omega) 0 (ok := fun _ => True) (okp := fun _ => True) rfl (fun _ hk => hk) trivial (zD) (Nat.le_trans (Nat.mul_le_mul_right _ (zD : (l0.length : Int).toNat ≤ 35184372088832)) (by omega)) (Below.refl _ _) (Nat.le_refl _) ?_
   intro v106 w9 ho10 hb hg_ hnew_
   clear hg_ hnew_
   (first | rw [← Ny105.out] at ho10 | (simp only [Int.reduceToNat] at ho10; rw [← Ny105.out] at ho10))
   have n_ := y3 (Kd.R_elder' (zR HO104.out) (Kd.R_base ho10) hb) (Kd.R_lower (Kd.R_new' ho10 (Kd.R_lt (zR HO104.out))) (below_size (zB))) (below_step (zB) hb)
   clear HO104 HB
   obtain ⟨HO104, HO107, HB⟩ := n_
   clear hb ho10
   refine hK.out _ _ trivial (fun hHeld => ?_)
   clear hK K
   refine norm_ (a' := ?_) ?_ ?_
   rotate_left
   ·
    show Act.put _ (some 17) _ = _
    simp only [Act.put, List.setIfInBounds_toArray, List.set_cons_zero, List.set_cons_succ, i64_w, i32_w]
    rfl
   exact norm_ (by simp only [putAll, Act.put, List.setIfInBounds_toArray, List.set_cons_zero, List.set_cons_succ]) (hCont (v103, v106) _ ⟨(by refine zR ?_; exact Kd.R_mono HO104.out (fun _ hk => hk.2)), (by refine zR ?_; exact Kd.R_mono HO107.out (fun _ hk => hk.2)), (zB)⟩)
  skip
  refine Kd.R_make_step (Kd.int .i64) _ 2 (by rfl) (N := 17) rfl 24 _ _ rfl (l0.length : Int) rfl rfl Try.underlying24 (.int .i64 0) 8 info2 rfl (by decide) (by omega) 0 (ok := fun _ => True) (okp := fun _ => True) rfl (fun _ hk => hk) trivial (zD) (Nat.le_trans (Nat.mul_le_mul_right _ (zD : (l0.length : Int).toNat ≤ 35184372088832)) (by omega)) (Below.refl _ _) (Nat.le_refl _) ?_
  intro v106 w7 ho8 hb hg_ hnew_
  clear hg_ hnew_
  (first | rw [← Ny105.out] at ho8 | (simp only [Int.reduceToNat] at ho8; rw [← Ny105.out] at ho8))
  have n_ := y2 (Kd.R_lower ho8 (below_size (zB))) (below_step (zB) hb)
  clear HB
  obtain ⟨HO107, HB⟩ := n_
  clear hb ho8
  refine hK.out _ _ trivial (fun hHeld => ?_)
  clear hK K
  refine norm_ (a' := ?_) ?_ ?_
  rotate_left
  ·
   show Act.put _ (some 17) _ = _
   simp only [Act.put, List.setIfInBounds_toArray, List.set_cons_zero, List.set_cons_succ, i64_w, i32_w]
   rfl
  refine one_ (i := 0) (N := some 14) #[true,true,true,true,false,false] rfl rfl zk (by decide) (fun K hK => ?_)
  refine Kd.R_lit_step (Kd.int .i64) _ 2 ?hg (N := 14) ?hd (xs := ([] : List Int)) (inner := []) (ok := fun _ => True) (okp := fun _ => True) ?hr ?hp (fun _ hk => hk) trivial (Below.refl _ _) (Nat.le_refl _) (by simp) ?_; (case hd => rfl); (case hg => rfl); (case hr => first | (go_simp; done) | (go_simp; rfl)); (case hp => exact (Reps.none _ _))
  intro v103 w9 ho10 hb hg_ hnew_
  clear hg_ hnew_
  (first | rw [← Ny102.out] at ho10 | (simp only [Int.reduceToNat] at ho10; rw [← Ny102.out] at ho10))
  have n_ := y3 (Kd.R_elder' (zR HO107.out) (Kd.R_base ho10) hb) (Kd.R_lower (Kd.R_new' ho10 (Kd.R_lt (zR HO107.out))) (below_size (zB))) (below_step (zB) hb)
  clear HO107 HB
  obtain ⟨HO107, HO104, HB⟩ := n_
  clear hb ho10
  refine hK.out _ _ trivial (fun hHeld => ?_)
  clear hK K
  refine norm_ (a' := ?_) ?_ ?_
  rotate_left
  ·
   show Act.put _ (some 14) _ = _
   simp only [Act.put, List.setIfInBounds_toArray, List.set_cons_zero, List.set_cons_succ, i64_w, i32_w]
   rfl
  refine pure_ (i := 4) (N := some 5) (v := ?_) (a' := ?_) #[true,true,true,true,true,false] rfl rfl zk (fun _ _ _ h => h) (Or.inl ⟨by rfl, ?_⟩) ?_ ?_
  rotate_left; exact zp; rotate_left; exact zq
  exact norm_ (by simp only [putAll, Act.put, List.setIfInBounds_toArray, List.set_cons_zero, List.set_cons_succ]) (hCont (v103, v106) _ ⟨(by refine zR ?_; exact Kd.R_mono HO104.out (fun _ hk => hk.2)), (by refine zR ?_; exact Kd.R_mono HO107.out (fun _ hk => hk.2)), (zB)⟩)
 rintro ⟨v103, v106⟩ w11 ⟨h0_, h1_, h2_⟩
 have n0_ : Aside0 (Kd.R (Kd.int .i64) 2 w11 w.heap.size (fun k_ => some k_ ≠ (v106 : Value).ownBlock) v103 y102) := ⟨h0_⟩
 have n1_ : Aside0 (Kd.R (Kd.int .i64) 2 w11 w.heap.size (fun k_ => some k_ ≠ (v103 : Value).ownBlock) v106 y105) := ⟨h1_⟩
 have n2_ : Aside0 (Below w.heap.size w w11) := ⟨h2_⟩
 clear HB
 clear h0_ h1_ h2_
 have HO104 := n0_
 have HO107 := n1_
 have HB := n2_
 clear n0_ n1_ n2_
 have hHeld := trivial
 refine norm_ (a' := ?_) ?_ ?_
 rotate_left
 ·
  simp only [putAll, Act.put, List.setIfInBounds_toArray, List.set_cons_zero, List.set_cons_succ]
  rfl
 refine pure_ (i := 5) (N := some 6) (v := ?_) (a' := ?_) #[true,true,true,true,true,true] rfl rfl zk (fun _ _ _ h => h) (Or.inl ⟨by rfl, ?_⟩) ?_ ?_
 rotate_left; exact zp; rotate_left; exact zq
 refine done_ zk ?_
 try go_wp2
 go_loopg [5, 7] k (fun kq v5 v7 w' => ∃ (x5_1 : List Int) (x6_1 : List Int) (x7_1 : Int), v7 = .int .i64 x7_1 ∧ Aside0 (spec_GreedyTurns.l0 kq l0 t101 x5_1 x6_1 x7_1 = some (r1, r2)) ∧ Aside0 (kq ≤ k) ∧ Aside0 (Kd.R (Kd.int .i64) 2 w' w.heap.size (fun k_ => some k_ ≠ (v106 : Value).ownBlock) v5 x5_1) ∧ Aside0 (Kd.R (Kd.int .i64) 2 w' w.heap.size (fun k_ => some k_ ≠ (v5 : Value).ownBlock) v106 x6_1) ∧ Aside0 (Below w.heap.size w w'))
 case atStart => exact ⟨(y102), (y105), (0), zF, H', ⟨Nat.le_refl _⟩, ⟨zR HO104.out⟩, ⟨zR HO107.out⟩, ⟨zB⟩⟩
 clear H'
 try clear c3
 try clear c3b0
 try clear c3b1
 try clear c4
 try clear c4b0
 try clear c4b1
 try clear c5
 try clear c5b0
 try clear c5b1
 obtain ⟨x5_1, x6_1, x7_1, rfl, HA, HK1, HO_5, HO_6, HB⟩ := hrel
 cases gk with
 | zero => exact absurd HA.out (by simp [spec_GreedyTurns.l0])
 | succ k1 =>
   have H := HA.out
   clear HA
   simp only [spec_GreedyTurns.l0] at H
   by_cases c12 : x7_1 < t101
   · rw [if_pos c12] at H
     have c12b0 : decide (x7_1 < t101) = true := decide_eq_true c12
     clear c12
     have H' := Aside0.mk H
     clear H
     go_wp2
     go_loopg [8, 25] k1 (fun kq v8 v25 w' => ∃ (x8_2 : Int) (x25_2 : Int), v8 = .int .i64 x8_2 ∧ v25 = .int .i64 x25_2 ∧ Aside0 (spec_GreedyTurns.l1 kq l0 t101 x5_1 x6_1 x7_1 x8_2 (l0.length : Int) x25_2 = some (r1, r2)) ∧ Aside0 (kq ≤ k1) ∧ Aside0 (Kd.R (Kd.int .i64) 2 w' w.heap.size (fun k_ => some k_ ≠ (v106 : Value).ownBlock) u5 x5_1) ∧ Aside0 (Kd.R (Kd.int .i64) 2 w' w.heap.size (fun k_ => some k_ ≠ (u5 : Value).ownBlock) v106 x6_1) ∧ Aside0 (Below w.heap.size w w'))
     case atStart => exact ⟨(0), (0), zF, zF, H', ⟨Nat.le_refl _⟩, ⟨zR HO_5.out⟩, ⟨zR HO_6.out⟩, ⟨zB⟩⟩
     case round =>
       clear H'
       try clear c3
       try clear c3b0
       try clear c3b1
       try clear c4
       try clear c4b0
       try clear c4b1
       try clear c5
       try clear c5b0
       try clear c5b1
       try clear c12
       try clear c12b0
       obtain ⟨x8_2, x25_2, rfl, rfl, HA, HK2, HO_5, HO_6, HB⟩ := hrel
       cases gk with
       | zero => exact absurd HA.out (by simp [spec_GreedyTurns.l1])
       | succ k2 =>
         have H := HA.out
         clear HA
         simp only [spec_GreedyTurns.l1] at H
         by_cases c13 : x25_2 < (l0.length : Int)
         · rw [if_pos c13] at H
           have c13b0 : decide (x25_2 < (l0.length : Int)) = true := decide_eq_true c13
           clear c13
           by_cases c14 : 0 ≤ x25_2
           · rw [if_pos c14] at H
             have c14b0 : decide (0 ≤ x25_2) = true := decide_eq_true c14
             clear c14
             by_cases c15 : x25_2 < (x6_1.length : Int)
             · rw [if_pos c15] at H
               have c15b0 : decide (x25_2 < (x6_1.length : Int)) = true := decide_eq_true c15
               clear c15
               by_cases c16 : x25_2 < (l0.length : Int)
               · rw [if_pos c16] at H
                 have c16b0 : decide (x25_2 < (l0.length : Int)) = true := decide_eq_true c16
                 clear c16
                 by_cases c17 : 0 ≤ x8_2
                 · rw [if_pos c17] at H
                   have c17b0 : decide (0 ≤ x8_2) = true := decide_eq_true c17
                   clear c17
                   by_cases c18 : x8_2 < (x6_1.length : Int)
                   · rw [if_pos c18] at H
                     have c18b0 : decide (x8_2 < (x6_1.length : Int)) = true := decide_eq_true c18
                     clear c18
                     by_cases c19 : x8_2 < (l0.length : Int)
                     · rw [if_pos c19] at H
                       have c19b0 : decide (x8_2 < (l0.length : Int)) = true := decide_eq_true c19
                       clear c19
                       by_cases c20 : (wrap64 ((wrap64 (t101 * (rd x6_1 x25_2))) - (wrap64 ((wrap64 (x7_1 + 1)) * (rd l0 x25_2))))) < (wrap64 ((wrap64 (t101 * (rd x6_1 x8_2))) - (wrap64 ((wrap64 (x7_1 + 1)) * (rd l0 x8_2)))))
                       · rw [if_pos c20] at H
                         have c20b0 : decide ((wrap64 ((wrap64 (t101 * (rd x6_1 x25_2))) - (wrap64 ((wrap64 (x7_1 + 1)) * (rd l0 x25_2))))) < (wrap64 ((wrap64 (t101 * (rd x6_1 x8_2))) - (wrap64 ((wrap64 (x7_1 + 1)) * (rd l0 x8_2)))))) = true := decide_eq_true c20
                         clear c20
                         have H' := Aside0.mk H
                         clear H
                         try go_wp2
                         have n_ := y3 (Kd.R_drew HO_5.out) (Kd.R_drew HO_6.out) (below_drew1 HB.out)
                         clear HO_5 HO_6 HB
                         obtain ⟨HO_5, HO_6, HB⟩ := n_
                         obtain ⟨Ao22, co22, eo22⟩ := Kd.R_slice HO_6.out
                         (first | subst eo22 | (injection eo22 with f1_ f2_ f3_; have f4_ := f1_.symm; have f5_ := f3_.symm; clear f1_ f2_ f3_; subst f4_; subst f5_))
                         have p108 : 0 ≤ (x25_2 : Int) := zD
                         have q108 : x25_2 < (x6_1.length : Int) := zD
                         obtain ⟨ad108, e108, hx108_0⟩ := Kd.at_int (Kd.R_reads' HO_6.out).2.2 x25_2 p108 q108
                         cases e108
                         replace p108 := eq_true p108
                         replace q108 := eq_true q108
                         have p109 : 0 ≤ (x25_2 : Int) := zD
                         have q109 : x25_2 < (l0.length : Int) := zD
                         obtain ⟨ad109, e109, hx109_0⟩ := Kd.at_int HR0.out x25_2 p109 q109
                         have hw109_0 := hx109_0
                         cases e109
                         replace hx109_0 := (HB.out.cell (World.block_lt_of_cell? w _ hx109_0)).trans hx109_0
                         replace p109 := eq_true p109
                         replace q109 := eq_true q109
                         have p110 : 0 ≤ (x8_2 : Int) := zD
                         have q110 : x8_2 < (x6_1.length : Int) := zD
                         obtain ⟨ad110, e110, hx110_0⟩ := Kd.at_int (Kd.R_reads' HO_6.out).2.2 x8_2 p110 q110
                         obtain rfl : ad108 = ad110 := (by injection e110)
                         replace p110 := eq_true p110
                         replace q110 := eq_true q110
                         have p111 : 0 ≤ (x8_2 : Int) := zD
                         have q111 : x8_2 < (l0.length : Int) := zD
                         obtain ⟨ad111, e111, hx111_0⟩ := Kd.at_int HR0.out x8_2 p111 q111
                         have hw111_0 := hx111_0
                         obtain rfl : ad109 = ad111 := (by injection e111)
                         replace hx111_0 := (HB.out.cell (World.block_lt_of_cell? w _ hx111_0)).trans hx111_0
                         replace p111 := eq_true p111
                         replace q111 := eq_true q111
                         refine start_ (n := 29) (S := fun w' => w'.cell? (ad108.add (x25_2).toNat) = some (.int .i64 (rd x6_1 x25_2)) ∧ w'.cell? (ad109.add (x25_2).toNat) = some (.int .i64 (rd l0 x25_2)) ∧ w'.cell? (ad108.add (x8_2).toNat) = some (.int .i64 (rd x6_1 x8_2)) ∧ w'.cell? (ad109.add (x8_2).toNat) = some (.int .i64 (rd l0 x8_2))) (ds := []) #[false,false,false,false,false,false,false,false,false,false,false,false,false,false,false,false,false,false,false,false,false,false,false,false,false,false,false,false,false] zk rfl rfl ⟨hx108_0, ((HB.out.cell (World.block_lt_of_cell? w _ hw109_0)).trans hw109_0), hx110_0, ((HB.out.cell (World.block_lt_of_cell? w _ hw111_0)).trans hw111_0)⟩ (fun hHeld => ?_); refine with_tabW spec_GreedyTurns.tab12 spec_GreedyTurns.bits12 (fun HT_ HW_ => ?_)
                         generalize wr.drew = w21 at HO_5 HO_6 HB hx108_0 hx109_0 hx110_0 hx111_0 hHeld ⊢
                         refine pure_ (i := 0) (N := some 28) (v := ?_) (a' := ?_) #[true,false,false,false,false,false,false,false,false,false,false,false,false,false,false,false,false,false,false,false,false,false,false,false,false,false,false,false,false] rfl rfl (any_of HT_.out zk) (fun _ _ _ h => h) (Or.inl ⟨by rfl, ?_⟩) ?_ ?_
                         rotate_left; exact zp; rotate_left; exact zq
                         refine pure_ (i := 1) (N := some 29) (v := ?_) (a' := ?_) #[true,true,false,false,false,false,false,false,false,false,false,false,false,false,false,false,false,false,false,false,false,false,false,false,false,false,false,false,false] rfl rfl (any_of HT_.out zk) (fun _ _ _ h => h) (Or.inl ⟨by rfl, ?_⟩) ?_ ?_
                         rotate_left; exact zp; rotate_left; exact zq
                         refine pure_ (i := 2) (N := some 30) (v := ?_) (a' := ?_) #[true,true,true,false,false,false,false,false,false,false,false,false,false,false,false,false,false,false,false,false,false,false,false,false,false,false,false,false,false] rfl rfl (any_of HT_.out zk) (fun _ _ _ h => h) (Or.inl ⟨by rfl, ?_⟩) ?_ ?_
                         rotate_left; exact zp; rotate_left; exact zq
                         refine pure_ (i := 3) (N := some 31) (v := ?_) (a' := ?_) #[true,true,true,true,false,false,false,false,false,false,false,false,false,false,false,false,false,false,false,false,false,false,false,false,false,false,false,false,false] rfl rfl (any_of HT_.out zk) (fun _ _ _ h => h) (Or.inl ⟨by rfl, ?_⟩) ?_ ?_
                         rotate_left; exact zp; rotate_left; exact zq
                         refine pure_ (i := 6) (N := some 34) (v := ?_) (a' := ?_) #[true,true,true,true,false,false,true,false,false,false,false,false,false,false,false,false,false,false,false,false,false,false,false,false,false,false,false,false,false] rfl rfl (any_of HT_.out zk) (fun _ _ _ h => h) (Or.inl ⟨by rfl, ?_⟩) ?_ ?_
                         rotate_left; exact zp; rotate_left; exact zq
                         refine pure_ (i := 7) (N := some 35) (v := ?_) (a' := ?_) #[true,true,true,true,false,false,true,true,false,false,false,false,false,false,false,false,false,false,false,false,false,false,false,false,false,false,false,false,false] rfl rfl (any_of HT_.out zk) (fun _ _ _ h => h) (Or.inl ⟨by rfl, ?_⟩) ?_ ?_
                         rotate_left; exact zp; rotate_left; exact zq
                         refine pure_ (i := 8) (N := some 36) (v := ?_) (a' := ?_) #[true,true,true,true,false,false,true,true,true,false,false,false,false,false,false,false,false,false,false,false,false,false,false,false,false,false,false,false,false] rfl rfl (any_of HT_.out zk) (fun _ _ _ h => h) (Or.inl ⟨by rfl, ?_⟩) ?_ ?_
                         rotate_left; exact zp; rotate_left; exact zq
                         refine pure_ (i := 9) (N := some 37) (v := ?_) (a' := ?_) #[true,true,true,true,false,false,true,true,true,true,false,false,false,false,false,false,false,false,false,false,false,false,false,false,false,false,false,false,false] rfl rfl (any_of HT_.out zk) (fun _ _ _ h => h) (Or.inl ⟨by rfl, ?_⟩) ?_ ?_
                         rotate_left; exact zp; rotate_left; exact zq
                         refine pure_ (i := 10) (N := some 38) (v := ?_) (a' := ?_) #[true,true,true,true,false,false,true,true,true,true,true,false,false,false,false,false,false,false,false,false,false,false,false,false,false,false,false,false,false] rfl rfl (any_of HT_.out zk) (fun _ _ _ h => h) (Or.inl ⟨by rfl, ?_⟩) ?_ ?_
                         rotate_left; exact zp; rotate_left; exact zq
                         refine pure_ (i := 14) (N := some 42) (v := ?_) (a' := ?_) #[true,true,true,true,false,false,true,true,true,true,true,false,false,false,true,false,false,false,false,false,false,false,false,false,false,false,false,false,false] rfl rfl (any_of HT_.out zk) (fun _ _ _ h => h) (Or.inl ⟨by rfl, ?_⟩) ?_ ?_
                         rotate_left; exact zp; rotate_left; exact zq
                         refine pure_ (i := 15) (N := some 43) (v := ?_) (a' := ?_) #[true,true,true,true,false,false,true,true,true,true,true,false,false,false,true,true,false,false,false,false,false,false,false,false,false,false,false,false,false] rfl rfl (any_of HT_.out zk) (fun _ _ _ h => h) (Or.inl ⟨by rfl, ?_⟩) ?_ ?_
                         rotate_left; exact zp; rotate_left; exact zq
                         refine pure_ (i := 16) (N := some 44) (v := ?_) (a' := ?_) #[true,true,true,true,false,false,true,true,true,true,true,false,false,false,true,true,true,false,false,false,false,false,false,false,false,false,false,false,false] rfl rfl (any_of HT_.out zk) (fun _ _ _ h => h) (Or.inl ⟨by rfl, ?_⟩) ?_ ?_
                         rotate_left; exact zp; rotate_left; exact zq
                         refine pure_ (i := 17) (N := some 45) (v := ?_) (a' := ?_) #[true,true,true,true,false,false,true,true,true,true,true,false,false,false,true,true,true,true,false,false,false,false,false,false,false,false,false,false,false] rfl rfl (any_of HT_.out zk) (fun _ _ _ h => h) (Or.inl ⟨by rfl, ?_⟩) ?_ ?_
                         rotate_left; exact zp; rotate_left; exact zq
                         refine pure_ (i := 20) (N := some 48) (v := ?_) (a' := ?_) #[true,true,true,true,false,false,true,true,true,true,true,false,false,false,true,true,true,true,false,false,true,false,false,false,false,false,false,false,false] rfl rfl (any_of HT_.out zk) (fun _ _ _ h => h) (Or.inl ⟨by rfl, ?_⟩) ?_ ?_
                         rotate_left; exact zp; rotate_left; exact zq
                         refine pure_ (i := 21) (N := some 49) (v := ?_) (a' := ?_) #[true,true,true,true,false,false,true,true,true,true,true,false,false,false,true,true,true,true,false,false,true,true,false,false,false,false,false,false,false] rfl rfl (any_of HT_.out zk) (fun _ _ _ h => h) (Or.inl ⟨by rfl, ?_⟩) ?_ ?_
                         rotate_left; exact zp; rotate_left; exact zq
                         refine pure_ (i := 22) (N := some 50) (v := ?_) (a' := ?_) #[true,true,true,true,false,false,true,true,true,true,true,false,false,false,true,true,true,true,false,false,true,true,true,false,false,false,false,false,false] rfl rfl (any_of HT_.out zk) (fun _ _ _ h => h) (Or.inl ⟨by rfl, ?_⟩) ?_ ?_
                         rotate_left; exact zp; rotate_left; exact zq
                         refine pure_ (i := 23) (N := some 51) (v := ?_) (a' := ?_) #[true,true,true,true,false,false,true,true,true,true,true,false,false,false,true,true,true,true,false,false,true,true,true,true,false,false,false,false,false] rfl rfl (any_of HT_.out zk) (fun _ _ _ h => h) (Or.inl ⟨by rfl, ?_⟩) ?_ ?_
                         rotate_left; exact zp; rotate_left; exact zq
                         refine pure_ (i := 24) (N := some 52) (v := ?_) (a' := ?_) #[true,true,true,true,false,false,true,true,true,true,true,false,false,false,true,true,true,true,false,false,true,true,true,true,true,false,false,false,false] rfl rfl (any_of HT_.out zk) (fun _ _ _ h => h) (Or.inl ⟨by rfl, ?_⟩) ?_ ?_
                         rotate_left; exact zp; rotate_left; exact zq
                         refine take_ (i := 4) (N := some 32) (v := ?_) (a' := ?_) #[true,true,true,true,true,false,true,true,true,true,true,false,false,false,true,true,true,true,false,false,true,true,true,true,true,false,false,false,false] rfl rfl (take_ofW HT_.out HW_.out zk) (fun _ _ _ h => h) (Or.inl ⟨by rfl, ?_⟩) hHeld ?_ ?_
                         rotate_left
                         · rintro w' ⟨s0, s1, s2, s3⟩
                           go_simp
                           with_reducible rfl
                         rotate_left
                         · simp only [Act.put, List.setIfInBounds_toArray, List.set_cons_zero, List.set_cons_succ, i64_w, i32_w]
                           rfl
                         refine pure_ (i := 5) (N := some 33) (v := ?_) (a' := ?_) #[true,true,true,true,true,true,true,true,true,true,true,false,false,false,true,true,true,true,false,false,true,true,true,true,true,false,false,false,false] rfl rfl (any_of HT_.out zk) (fun _ _ _ h => h) (Or.inl ⟨by rfl, ?_⟩) ?_ ?_
                         rotate_left; exact zp; rotate_left; exact zq
                         refine take_ (i := 11) (N := some 39) (v := ?_) (a' := ?_) #[true,true,true,true,true,true,true,true,true,true,true,true,false,false,true,true,true,true,false,false,true,true,true,true,true,false,false,false,false] rfl rfl (take_ofW HT_.out HW_.out zk) (fun _ _ _ h => h) (Or.inl ⟨by rfl, ?_⟩) hHeld ?_ ?_
                         rotate_left
                         · rintro w' ⟨s0, s1, s2, s3⟩
                           go_simp
                           with_reducible rfl
                         rotate_left
                         · simp only [Act.put, List.setIfInBounds_toArray, List.set_cons_zero, List.set_cons_succ, i64_w, i32_w]
                           rfl
                         refine pure_ (i := 12) (N := some 40) (v := ?_) (a' := ?_) #[true,true,true,true,true,true,true,true,true,true,true,true,true,false,true,true,true,true,false,false,true,true,true,true,true,false,false,false,false] rfl rfl (any_of HT_.out zk) (fun _ _ _ h => h) (Or.inl ⟨by rfl, ?_⟩) ?_ ?_
                         rotate_left; exact zp; rotate_left; exact zq
                         refine pure_ (i := 13) (N := some 41) (v := ?_) (a' := ?_) #[true,true,true,true,true,true,true,true,true,true,true,true,true,true,true,true,true,true,false,false,true,true,true,true,true,false,false,false,false] rfl rfl (any_of HT_.out zk) (fun _ _ _ h => h) (Or.inl ⟨by rfl, ?_⟩) ?_ ?_
                         rotate_left; exact zp; rotate_left; exact zq
                         refine take_ (i := 18) (N := some 46) (v := ?_) (a' := ?_) #[true,true,true,true,true,true,true,true,true,true,true,true,true,true,true,true,true,true,true,false,true,true,true,true,true,false,false,false,false] rfl rfl (take_ofW HT_.out HW_.out zk) (fun _ _ _ h => h) (Or.inl ⟨by rfl, ?_⟩) hHeld ?_ ?_
                         rotate_left
                         · rintro w' ⟨s0, s1, s2, s3⟩
                           go_simp
                           with_reducible rfl
                         rotate_left
                         · simp only [Act.put, List.setIfInBounds_toArray, List.set_cons_zero, List.set_cons_succ, i64_w, i32_w]
                           rfl
                         refine pure_ (i := 19) (N := some 47) (v := ?_) (a' := ?_) #[true,true,true,true,true,true,true,true,true,true,true,true,true,true,true,true,true,true,true,true,true,true,true,true,true,false,false,false,false] rfl rfl (any_of HT_.out zk) (fun _ _ _ h => h) (Or.inl ⟨by rfl, ?_⟩) ?_ ?_
                         rotate_left; exact zp; rotate_left; exact zq
                         refine take_ (i := 25) (N := some 53) (v := ?_) (a' := ?_) #[true,true,true,true,true,true,true,true,true,true,true,true,true,true,true,true,true,true,true,true,true,true,true,true,true,true,false,false,false] rfl rfl (take_ofW HT_.out HW_.out zk) (fun _ _ _ h => h) (Or.inl ⟨by rfl, ?_⟩) hHeld ?_ ?_
                         rotate_left
                         · rintro w' ⟨s0, s1, s2, s3⟩
                           go_simp
                           with_reducible rfl
                         rotate_left
                         · simp only [Act.put, List.setIfInBounds_toArray, List.set_cons_zero, List.set_cons_succ, i64_w, i32_w]
                           rfl
                         refine pure_ (i := 26) (N := some 54) (v := ?_) (a' := ?_) #[true,true,true,true,true,true,true,true,true,true,true,true,true,true,true,true,true,true,true,true,true,true,true,true,true,true,true,false,false] rfl rfl (any_of HT_.out zk) (fun _ _ _ h => h) (Or.inl ⟨by rfl, ?_⟩) ?_ ?_
                         rotate_left; exact zp; rotate_left; exact zq
                         refine pure_ (i := 27) (N := some 55) (v := ?_) (a' := ?_) #[true,true,true,true,true,true,true,true,true,true,true,true,true,true,true,true,true,true,true,true,true,true,true,true,true,true,true,true,false] rfl rfl (any_of HT_.out zk) (fun _ _ _ h => h) (Or.inl ⟨by rfl, ?_⟩) ?_ ?_
                         rotate_left; exact zp; rotate_left; exact zq
                         refine pure_ (i := 28) (N := some 56) (v := ?_) (a' := ?_) #[true,true,true,true,true,true,true,true,true,true,true,true,true,true,true,true,true,true,true,true,true,true,true,true,true,true,true,true,true] rfl rfl (any_of HT_.out zk) (fun _ _ _ h => h) (Or.inl ⟨by rfl, ?_⟩) ?_ ?_
                         rotate_left; exact zp; rotate_left; exact zq
                         refine done_ (done_of HT_.out zk) ?_
                         try go_wp2
                         go_roundg k2
                         case measure => have := HK1.out; have := HK2.out; omega
                         case rel => exact ⟨(x25_2), (wrap64 (x25_2 + 1)), zF, zF, H', ⟨by have := HK1.out; have := HK2.out; omega⟩, ⟨zR HO_5.out⟩, ⟨zR HO_6.out⟩, ⟨zB⟩⟩
                       · rw [if_neg c20] at H
                         have c20b0 : decide ((wrap64 ((wrap64 (t101 * (rd x6_1 x25_2))) - (wrap64 ((wrap64 (x7_1 + 1)) * (rd l0 x25_2))))) < (wrap64 ((wrap64 (t101 * (rd x6_1 x8_2))) - (wrap64 ((wrap64 (x7_1 + 1)) * (rd l0 x8_2)))))) = false := decide_eq_false c20
                         clear c20
                         have H' := Aside0.mk H
                         clear H
                         try go_wp2
                         have n_ := y3 (Kd.R_drew HO_5.out) (Kd.R_drew HO_6.out) (below_drew1 HB.out)
                         clear HO_5 HO_6 HB
                         obtain ⟨HO_5, HO_6, HB⟩ := n_
                         obtain ⟨Ao24, co24, eo24⟩ := Kd.R_slice HO_6.out
                         (first | subst eo24 | (injection eo24 with f1_ f2_ f3_; have f4_ := f1_.symm; have f5_ := f3_.symm; clear f1_ f2_ f3_; subst f4_; subst f5_))
                         have p108 : 0 ≤ (x25_2 : Int) := zD
                         have q108 : x25_2 < (x6_1.length : Int) := zD
                         obtain ⟨ad108, e108, hx108_0⟩ := Kd.at_int (Kd.R_reads' HO_6.out).2.2 x25_2 p108 q108
                         cases e108
                         replace p108 := eq_true p108
                         replace q108 := eq_true q108
                         have p109 : 0 ≤ (x25_2 : Int) := zD
                         have q109 : x25_2 < (l0.length : Int) := zD
                         obtain ⟨ad109, e109, hx109_0⟩ := Kd.at_int HR0.out x25_2 p109 q109
                         have hw109_0 := hx109_0
                         cases e109
                         replace hx109_0 := (HB.out.cell (World.block_lt_of_cell? w _ hx109_0)).trans hx109_0
                         replace p109 := eq_true p109
                         replace q109 := eq_true q109
                         have p110 : 0 ≤ (x8_2 : Int) := zD
                         have q110 : x8_2 < (x6_1.length : Int) := zD
                         obtain ⟨ad110, e110, hx110_0⟩ := Kd.at_int (Kd.R_reads' HO_6.out).2.2 x8_2 p110 q110
                         obtain rfl : ad108 = ad110 := (by injection e110)
                         replace p110 := eq_true p110
                         replace q110 := eq_true q110
                         have p111 : 0 ≤ (x8_2 : Int) := zD
                         have q111 : x8_2 < (l0.length : Int) := zD
                         obtain ⟨ad111, e111, hx111_0⟩ := Kd.at_int HR0.out x8_2 p111 q111
                         have hw111_0 := hx111_0
                         obtain rfl : ad109 = ad111 := (by injection e111)
                         replace hx111_0 := (HB.out.cell (World.block_lt_of_cell? w _ hx111_0)).trans hx111_0
                         replace p111 := eq_true p111
                         replace q111 := eq_true q111
                         refine start_ (n := 29) (S := fun w' => w'.cell? (ad108.add (x25_2).toNat) = some (.int .i64 (rd x6_1 x25_2)) ∧ w'.cell? (ad109.add (x25_2).toNat) = some (.int .i64 (rd l0 x25_2)) ∧ w'.cell? (ad108.add (x8_2).toNat) = some (.int .i64 (rd x6_1 x8_2)) ∧ w'.cell? (ad109.add (x8_2).toNat) = some (.int .i64 (rd l0 x8_2))) (ds := []) #[false,false,false,false,false,false,false,false,false,false,false,false,false,false,false,false,false,false,false,false,false,false,false,false,false,false,false,false,false] zk rfl rfl ⟨hx108_0, ((HB.out.cell (World.block_lt_of_cell? w _ hw109_0)).trans hw109_0), hx110_0, ((HB.out.cell (World.block_lt_of_cell? w _ hw111_0)).trans hw111_0)⟩ (fun hHeld => ?_); refine with_tabW spec_GreedyTurns.tab12 spec_GreedyTurns.bits12 (fun HT_ HW_ => ?_)
                         generalize wr.drew = w23 at HO_5 HO_6 HB hx108_0 hx109_0 hx110_0 hx111_0 hHeld ⊢
                         refine pure_ (i := 0) (N := some 28) (v := ?_) (a' := ?_) #[true,false,false,false,false,false,false,false,false,false,false,false,false,false,false,false,false,false,false,false,false,false,false,false,false,false,false,false,false] rfl rfl (any_of HT_.out zk) (fun _ _ _ h => h) (Or.inl ⟨by rfl, ?_⟩) ?_ ?_
                         rotate_left; exact zp; rotate_left; exact zq
                         refine pure_ (i := 1) (N := some 29) (v := ?_) (a' := ?_) #[true,true,false,false,false,false,false,false,false,false,false,false,false,false,false,false,false,false,false,false,false,false,false,false,false,false,false,false,false] rfl rfl (any_of HT_.out zk) (fun _ _ _ h => h) (Or.inl ⟨by rfl, ?_⟩) ?_ ?_
                         rotate_left; exact zp; rotate_left; exact zq
                         refine pure_ (i := 2) (N := some 30) (v := ?_) (a' := ?_) #[true,true,true,false,false,false,false,false,false,false,false,false,false,false,false,false,false,false,false,false,false,false,false,false,false,false,false,false,false] rfl rfl (any_of HT_.out zk) (fun _ _ _ h => h) (Or.inl ⟨by rfl, ?_⟩) ?_ ?_
                         rotate_left; exact zp; rotate_left; exact zq
                         refine pure_ (i := 3) (N := some 31) (v := ?_) (a' := ?_) #[true,true,true,true,false,false,false,false,false,false,false,false,false,false,false,false,false,false,false,false,false,false,false,false,false,false,false,false,false] rfl rfl (any_of HT_.out zk) (fun _ _ _ h => h) (Or.inl ⟨by rfl, ?_⟩) ?_ ?_
                         rotate_left; exact zp; rotate_left; exact zq
                         refine pure_ (i := 6) (N := some 34) (v := ?_) (a' := ?_) #[true,true,true,true,false,false,true,false,false,false,false,false,false,false,false,false,false,false,false,false,false,false,false,false,false,false,false,false,false] rfl rfl (any_of HT_.out zk) (fun _ _ _ h => h) (Or.inl ⟨by rfl, ?_⟩) ?_ ?_
                         rotate_left; exact zp; rotate_left; exact zq
                         refine pure_ (i := 7) (N := some 35) (v := ?_) (a' := ?_) #[true,true,true,true,false,false,true,true,false,false,false,false,false,false,false,false,false,false,false,false,false,false,false,false,false,false,false,false,false] rfl rfl (any_of HT_.out zk) (fun _ _ _ h => h) (Or.inl ⟨by rfl, ?_⟩) ?_ ?_
                         rotate_left; exact zp; rotate_left; exact zq
                         refine pure_ (i := 8) (N := some 36) (v := ?_) (a' := ?_) #[true,true,true,true,false,false,true,true,true,false,false,false,false,false,false,false,false,false,false,false,false,false,false,false,false,false,false,false,false] rfl rfl (any_of HT_.out zk) (fun _ _ _ h => h) (Or.inl ⟨by rfl, ?_⟩) ?_ ?_
                         rotate_left; exact zp; rotate_left; exact zq
                         refine pure_ (i := 9) (N := some 37) (v := ?_) (a' := ?_) #[true,true,true,true,false,false,true,true,true,true,false,false,false,false,false,false,false,false,false,false,false,false,false,false,false,false,false,false,false] rfl rfl (any_of HT_.out zk) (fun _ _ _ h => h) (Or.inl ⟨by rfl, ?_⟩) ?_ ?_
                         rotate_left; exact zp; rotate_left; exact zq
                         refine pure_ (i := 10) (N := some 38) (v := ?_) (a' := ?_) #[true,true,true,true,false,false,true,true,true,true,true,false,false,false,false,false,false,false,false,false,false,false,false,false,false,false,false,false,false] rfl rfl (any_of HT_.out zk) (fun _ _ _ h => h) (Or.inl ⟨by rfl, ?_⟩) ?_ ?_
                         rotate_left; exact zp; rotate_left; exact zq
                         refine pure_ (i := 14) (N := some 42) (v := ?_) (a' := ?_) #[true,true,true,true,false,false,true,true,true,true,true,false,false,false,true,false,false,false,false,false,false,false,false,false,false,false,false,false,false] rfl rfl (any_of HT_.out zk) (fun _ _ _ h => h) (Or.inl ⟨by rfl, ?_⟩) ?_ ?_
                         rotate_left; exact zp; rotate_left; exact zq
                         refine pure_ (i := 15) (N := some 43) (v := ?_) (a' := ?_) #[true,true,true,true,false,false,true,true,true,true,true,false,false,false,true,true,false,false,false,false,false,false,false,false,false,false,false,false,false] rfl rfl (any_of HT_.out zk) (fun _ _ _ h => h) (Or.inl ⟨by rfl, ?_⟩) ?_ ?_
                         rotate_left; exact zp; rotate_left; exact zq
                         refine pure_ (i := 16) (N := some 44) (v := ?_) (a' := ?_) #[true,true,true,true,false,false,true,true,true,true,true,false,false,false,true,true,true,false,false,false,false,false,false,false,false,false,false,false,false] rfl rfl (any_of HT_.out zk) (fun _ _ _ h => h) (Or.inl ⟨by rfl, ?_⟩) ?_ ?_
                         rotate_left; exact zp; rotate_left; exact zq
                         refine pure_ (i := 17) (N := some 45) (v := ?_) (a' := ?_) #[true,true,true,true,false,false,true,true,true,true,true,false,false,false,true,true,true,true,false,false,false,false,false,false,false,false,false,false,false] rfl rfl (any_of HT_.out zk) (fun _ _ _ h => h) (Or.inl ⟨by rfl, ?_⟩) ?_ ?_
                         rotate_left; exact zp; rotate_left; exact zq
                         refine pure_ (i := 20) (N := some 48) (v := ?_) (a' := ?_) #[true,true,true,true,false,false,true,true,true,true,true,false,false,false,true,true,true,true,false,false,true,false,false,false,false,false,false,false,false] rfl rfl (any_of HT_.out zk) (fun _ _ _ h => h) (Or.inl ⟨by rfl, ?_⟩) ?_ ?_
                         rotate_left; exact zp; rotate_left; exact zq
                         refine pure_ (i := 21) (N := some 49) (v := ?_) (a' := ?_) #[true,true,true,true,false,false,true,true,true,true,true,false,false,false,true,true,true,true,false,false,true,true,false,false,false,false,false,false,false] rfl rfl (any_of HT_.out zk) (fun _ _ _ h => h) (Or.inl ⟨by rfl, ?_⟩) ?_ ?_
                         rotate_left; exact zp; rotate_left; exact zq
                         refine pure_ (i := 22) (N := some 50) (v := ?_) (a' := ?_) #[true,true,true,true,false,false,true,true,true,true,true,false,false,false,true,true,true,true,false,false,true,true,true,false,false,false,false,false,false] rfl rfl (any_of HT_.out zk) (fun _ _ _ h => h) (Or.inl ⟨by rfl, ?_⟩) ?_ ?_
                         rotate_left; exact zp; rotate_left; exact zq
                         refine pure_ (i := 23) (N := some 51) (v := ?_) (a' := ?_) #[true,true,true,true,false,false,true,true,true,true,true,false,false,false,true,true,true,true,false,false,true,true,true,true,false,false,false,false,false] rfl rfl (any_of HT_.out zk) (fun _ _ _ h => h) (Or.inl ⟨by rfl, ?_⟩) ?_ ?_
                         rotate_left; exact zp; rotate_left; exact zq
                         refine pure_ (i := 24) (N := some 52) (v := ?_) (a' := ?_) #[true,true,true,true,false,false,true,true,true,true,true,false,false,false,true,true,true,true,false,false,true,true,true,true,true,false,false,false,false] rfl rfl (any_of HT_.out zk) (fun _ _ _ h => h) (Or.inl ⟨by rfl, ?_⟩) ?_ ?_
                         rotate_left; exact zp; rotate_left; exact zq
                         refine take_ (i := 4) (N := some 32) (v := ?_) (a' := ?_) #[true,true,true,true,true,false,true,true,true,true,true,false,false,false,true,true,true,true,false,false,true,true,true,true,true,false,false,false,false] rfl rfl (take_ofW HT_.out HW_.out zk) (fun _ _ _ h => h) (Or.inl ⟨by rfl, ?_⟩) hHeld ?_ ?_
                         rotate_left
                         · rintro w' ⟨s0, s1, s2, s3⟩
                           go_simp
                           with_reducible rfl
                         rotate_left
                         · simp only [Act.put, List.setIfInBounds_toArray, List.set_cons_zero, List.set_cons_succ, i64_w, i32_w]
                           rfl
                         refine pure_ (i := 5) (N := some 33) (v := ?_) (a' := ?_) #[true,true,true,true,true,true,true,true,true,true,true,false,false,false,true,true,true,true,false,false,true,true,true,true,true,false,false,false,false] rfl rfl (any_of HT_.out zk) (fun _ _ _ h => h) (Or.inl ⟨by rfl, ?_⟩) ?_ ?_
                         rotate_left; exact zp; rotate_left; exact zq
                         refine take_ (i := 11) (N := some 39) (v := ?_) (a' := ?_) #[true,true,true,true,true,true,true,true,true,true,true,true,false,false,true,true,true,true,false,false,true,true,true,true,true,false,false,false,false] rfl rfl (take_ofW HT_.out HW_.out zk) (fun _ _ _ h => h) (Or.inl ⟨by rfl, ?_⟩) hHeld ?_ ?_
                         rotate_left
                         · rintro w' ⟨s0, s1, s2, s3⟩
                           go_simp
                           with_reducible rfl
                         rotate_left
                         · simp only [Act.put, List.setIfInBounds_toArray, List.set_cons_zero, List.set_cons_succ, i64_w, i32_w]
                           rfl
                         refine pure_ (i := 12) (N := some 40) (v := ?_) (a' := ?_) #[true,true,true,true,true,true,true,true,true,true,true,true,true,false,true,true,true,true,false,false,true,true,true,true,true,false,false,false,false] rfl rfl (any_of HT_.out zk) (fun _ _ _ h => h) (Or.inl ⟨by rfl, ?_⟩) ?_ ?_
                         rotate_left; exact zp; rotate_left; exact zq
                         refine pure_ (i := 13) (N := some 41) (v := ?_) (a' := ?_) #[true,true,true,true,true,true,true,true,true,true,true,true,true,true,true,true,true,true,false,false,true,true,true,true,true,false,false,false,false] rfl rfl (any_of HT_.out zk) (fun _ _ _ h => h) (Or.inl ⟨by rfl, ?_⟩) ?_ ?_
                         rotate_left; exact zp; rotate_left; exact zq
                         refine take_ (i := 18) (N := some 46) (v := ?_) (a' := ?_) #[true,true,true,true,true,true,true,true,true,true,true,true,true,true,true,true,true,true,true,false,true,true,true,true,true,false,false,false,false] rfl rfl (take_ofW HT_.out HW_.out zk) (fun _ _ _ h => h) (Or.inl ⟨by rfl, ?_⟩) hHeld ?_ ?_
                         rotate_left
                         · rintro w' ⟨s0, s1, s2, s3⟩
                           go_simp
                           with_reducible rfl
                         rotate_left
                         · simp only [Act.put, List.setIfInBounds_toArray, List.set_cons_zero, List.set_cons_succ, i64_w, i32_w]
                           rfl
                         refine pure_ (i := 19) (N := some 47) (v := ?_) (a' := ?_) #[true,true,true,true,true,true,true,true,true,true,true,true,true,true,true,true,true,true,true,true,true,true,true,true,true,false,false,false,false] rfl rfl (any_of HT_.out zk) (fun _ _ _ h => h) (Or.inl ⟨by rfl, ?_⟩) ?_ ?_
                         rotate_left; exact zp; rotate_left; exact zq
                         refine take_ (i := 25) (N := some 53) (v := ?_) (a' := ?_) #[true,true,true,true,true,true,true,true,true,true,true,true,true,true,true,true,true,true,true,true,true,true,true,true,true,true,false,false,false] rfl rfl (take_ofW HT_.out HW_.out zk) (fun _ _ _ h => h) (Or.inl ⟨by rfl, ?_⟩) hHeld ?_ ?_
                         rotate_left
                         · rintro w' ⟨s0, s1, s2, s3⟩
                           go_simp
                           with_reducible rfl
                         rotate_left
                         · simp only [Act.put, List.setIfInBounds_toArray, List.set_cons_zero, List.set_cons_succ, i64_w, i32_w]
                           rfl
                         refine pure_ (i := 26) (N := some 54) (v := ?_) (a' := ?_) #[true,true,true,true,true,true,true,true,true,true,true,true,true,true,true,true,true,true,true,true,true,true,true,true,true,true,true,false,false] rfl rfl (any_of HT_.out zk) (fun _ _ _ h => h) (Or.inl ⟨by rfl, ?_⟩) ?_ ?_
                         rotate_left; exact zp; rotate_left; exact zq
                         refine pure_ (i := 27) (N := some 55) (v := ?_) (a' := ?_) #[true,true,true,true,true,true,true,true,true,true,true,true,true,true,true,true,true,true,true,true,true,true,true,true,true,true,true,true,false] rfl rfl (any_of HT_.out zk) (fun _ _ _ h => h) (Or.inl ⟨by rfl, ?_⟩) ?_ ?_
                         rotate_left; exact zp; rotate_left; exact zq
                         refine pure_ (i := 28) (N := some 56) (v := ?_) (a' := ?_) #[true,true,true,true,true,true,true,true,true,true,true,true,true,true,true,true,true,true,true,true,true,true,true,true,true,true,true,true,true] rfl rfl (any_of HT_.out zk) (fun _ _ _ h => h) (Or.inl ⟨by rfl, ?_⟩) ?_ ?_
                         rotate_left; exact zp; rotate_left; exact zq
                         refine done_ (done_of HT_.out zk) ?_
                         try go_wp2
                         go_roundg k2
                         case measure => have := HK1.out; have := HK2.out; omega
                         case rel => exact ⟨(x8_2), (wrap64 (x25_2 + 1)), zF, zF, H', ⟨by have := HK1.out; have := HK2.out; omega⟩, ⟨zR HO_5.out⟩, ⟨zR HO_6.out⟩, ⟨zB⟩⟩
                     · rw [if_neg c19] at H
                       exact absurd H (by simp)
                   · rw [if_neg c18] at H
                     exact absurd H (by simp)
                 · rw [if_neg c17] at H
                   exact absurd H (by simp)
               · rw [if_neg c16] at H
                 exact absurd H (by simp)
             · rw [if_neg c15] at H
               exact absurd H (by simp)
           · rw [if_neg c14] at H
             exact absurd H (by simp)
         · rw [if_neg c13] at H
           have c13b0 : decide (x25_2 < (l0.length : Int)) = false := decide_eq_false c13
           clear c13
           by_cases c25 : 0 ≤ x8_2
           · rw [if_pos c25] at H
             have c25b0 : decide (0 ≤ x8_2) = true := decide_eq_true c25
             clear c25
             by_cases c26 : x8_2 < (x6_1.length : Int)
             · rw [if_pos c26] at H
               have c26b0 : decide (x8_2 < (x6_1.length : Int)) = true := decide_eq_true c26
               clear c26
               obtain ⟨y113, hy113⟩ : ∃ y_ : List Int, y_ = (x6_1.set (x8_2 : Int).toNat (wrap64 ((rd x6_1 x8_2) + 1))) := ⟨_, rfl⟩
               replace H : (if x5_1.length < 17592186044416 then (spec_GreedyTurns.l0 k2 l0 t101 (x5_1 ++ [x8_2]) y113 (wrap64 (x7_1 + 1))) else (none)) = some (r1, r2) := zH hy113
               have Ny113 := Aside0.mk hy113
               clear hy113
               by_cases c28 : x5_1.length < 17592186044416
               · rw [if_pos c28] at H
                 have LMc28 := Aside0.mk c28
                 clear c28
                 obtain ⟨y114, hy114⟩ : ∃ y_ : List Int, y_ = (x5_1 ++ [x8_2]) := ⟨_, rfl⟩
                 replace H : (spec_GreedyTurns.l0 k2 l0 t101 y114 y113 (wrap64 (x7_1 + 1))) = some (r1, r2) := zH hy114
                 have Ny114 := Aside0.mk hy114
                 clear hy114
                 have H' := Aside0.mk H
                 clear H
                 obtain ⟨Ao29, co29, eo29⟩ := Kd.R_slice HO_6.out
                 subst eo29
                 have p112 : 0 ≤ (x8_2 : Int) := zD
                 have q112 : x8_2 < (x6_1.length : Int) := zD
                 obtain ⟨ad112, e112, hx112_0⟩ := Kd.at_int (Kd.R_reads' HO_6.out).2.2 x8_2 p112 q112
                 cases e112
                 replace p112 := eq_true p112
                 replace q112 := eq_true q112
                 have p27 : 0 ≤ (x8_2 : Int) := zD
                 have q27 : (x8_2 : Int) < ((x6_1.length : Int) : Int) := zD
                 obtain ⟨go27, co27, eo27, gb27, gl27, cl27, HG27⟩ := Kd.R_form HO_6.out (by omega)
                 (first | cases eo27 | (injection eo27 with ea_ en_ ec_; (first | subst ea_ | (injection ea_ with ea_; subst ea_)); subst ec_; clear en_))
                 have GB27 := Aside0.mk gb27
                 have GG27 := Aside0.mk HG27
                 clear gb27 gl27 HG27
                 (first | simp only [add_plain] at hx112_0 | skip)
                 obtain ⟨hx27_0, hf27_0⟩ := Kd.R_celln 0 HO_6.out (x8_2 : Int) p27 q27
                 replace p27 := eq_true p27
                 replace q27 := eq_true q27
                 have HP30 := Kd.R_putg HO_6.out (x8_2 : Int) (wrap64 ((rd x6_1 x8_2) + 1))
                 go_wp2_with (first | ((with_reducible refine gate_store (t := 2) (p := 64) rfl ?_); refine store_event (t := 2) (p := 64) (v := ?vo_w31) (w1 := (wr.setCell ⟨go27, (x8_2 : Int).toNat, none⟩ (.int .i64 (wrap64 ((rd x6_1 x8_2) + 1))))) ?hg ?ho ?hn ?hr ?_; (case ho => rfl); (case hg => rfl); (case hn => rfl); (case hr => first | (go_simp; done) | (go_simp; rfl)); intro w31 hw; have hg : wr.grownBy w31 (some go27) := (by rw [hw]; exact HP30.2); have hp_ : Kd.R (Kd.int .i64) 2 w31 w.heap.size (fun k_ => some k_ ≠ (u5 : Value).ownBlock) (.slice (some ⟨go27, 0, none⟩) x6_1.length co29) y113 := (by rw [hw, Ny113.out]; exact HP30.1); clear HP30; have n_ := y3 (Kd.R_after (v := (.slice (some ⟨go27, 0, none⟩) x6_1.length co29)) (v1 := (.slice (some ⟨go27, 0, none⟩) x6_1.length co29)) (ok := (fun _ => True)) (by refine zR ?_; exact Kd.R_mono HO_5.out (fun _ hk => ⟨trivial, hk⟩)) hg (.inl rfl)) (hp_) ((by rw [hw]; exact below_set (HB.out) GB27.out : Below w.heap.size w w31)); clear HO_5 HO_6 HB; obtain ⟨HO_5, HO_6, HB⟩ := n_; clear hg hw hp_) | ((with_reducible refine gate_builtin (b := .append) (xs := #[.tmp 65, .tmp 67]) rfl ?_); at_builtin; refine Kd.R_append (Kd.int .i64) (w0 := w) w.heap.size rfl (.tmp 65) (.tmp 67) 24 2 (.int .i64 0) 8 rfl Try.underlying24 info2 rfl (by decide) (by omega) u5 x5_1 x8_2 [.int .i64 x8_2] (fun k_ => some k_ ≠ (.slice (some ⟨go27, 0, none⟩) x6_1.length co29 : Value).ownBlock) (fun _ => False) rfl rfl ?aP (fun _ hk => hk.elim) ?aF ?aO ?aB ?aS ?aL ?_; (case aP => exact rfl); (case aB => exact (zB)); (case aF => exact (fun k_ hk => Kd.fresh' (Kd.R_lt (zR HO_6.out)) k_ hk)); (case aO => exact (by refine zR ?_; exact Kd.R_mono HO_5.out (fun _ hk => hk.2))); (case aS => exact (below_size (zB))); (case aL => have := LMc28.out; omega); intro v115 w32 ho hb hg hat; rw [← Ny114.out] at ho; have n_ := y3 (Kd.R_after (ok := (fun _ => True)) (by refine zR ?_; exact Kd.R_mono HO_6.out (fun _ hk => ⟨trivial, hk⟩)) hg hat) (hb) (ho); clear HO_6 HB HO_5; obtain ⟨HO_6, HB, HO116⟩ := n_; clear ho hb hg hat))
                 go_roundg k2
                 case measure => have := HK1.out; have := HK2.out; omega
                 case rel => exact ⟨(y114), (y113), (wrap64 (x7_1 + 1)), zF, H', ⟨by have := HK1.out; have := HK2.out; omega⟩, ⟨zR HO116.out⟩, ⟨by refine zR ?_; exact Kd.R_mono HO_6.out (fun _ hk => hk.2)⟩, ⟨zB⟩⟩
               · rw [if_neg c28] at H
                 exact absurd H (by simp)
             · rw [if_neg c26] at H
               exact absurd H (by simp)
           · rw [if_neg c25] at H
             exact absurd H (by simp)
   · rw [if_neg c12] at H
     have c12b0 : decide (x7_1 < t101) = false := decide_eq_false c12
     clear c12
     simp only [Option.some.injEq, Prod.mk.injEq] at H
     obtain ⟨rfl, rfl⟩ := H
     go_wp2
     go_ret2
     exact ⟨_, zE, by refine zR ?_; exact Kd.R_mono HO_5.out (fun _ hk => trivial), zB⟩
end Go.Proofs.Ytfmjckkgnieccaa.P
end
section
namespace Go.Proofs.Ytfmjckkgnieccaa.P
open Go.RowKit Go.Proofs.YtfmjckkgnieccaaW.PrintWords Go.Proofs.YtfmjckkgnieccaaW.PrintLast Go.Proofs.YtfmjckkgnieccaaW.PrintMore
attribute [local go_sem] max2_int min2_int max_two min_two max_three min_three max_four min_four   -- for this text's walks alone
set_option linter.unusedVariables false
set_option linter.unusedSimpArgs false
mutual
def spec_l07Deadline.l0 : Nat → List Int → Int → Int → List Int → List Int → Int → Option (List Int × Bool)
  | 0, _, _, _, _, _, _ => none
  | k + 1, x0, x1, x2, x8, x9, x10 => if x10 ≤ x1 then (spec_l07Deadline.l1 k x0 x1 x2 x8 x9 x10 (-1) 0 (x0.length : Int) 0) else (some (x8, true))
def spec_l07Deadline.l1 : Nat → List Int → Int → Int → List Int → List Int → Int → Int → Int → Int → Int → Option (List Int × Bool)
  | 0, _, _, _, _, _, _, _, _, _, _ => none
  | k + 1, x0, x1, x2, x8, x9, x10, x11, x12, x26, x27 => if x27 < x26 then (if 0 ≤ x27 then (if x27 < (x9.length : Int) then (if x27 < (x0.length : Int) then (if (wrap64 ((rd x9 x27) + 1)) > (rd x0 x27) then (spec_l07Deadline.j2 k x0 x1 x2 x8 x9 x10 x11 x12 x27 (wrap64 ((rd x9 x27) + 1)) x26 x27 true) else (spec_l07Deadline.j2 k x0 x1 x2 x8 x9 x10 x11 x12 x27 (wrap64 ((rd x9 x27) + 1)) x26 x27 (decide ((wrap64 ((wrap64 (x1 * (wrap64 ((rd x9 x27) + 1)))) - (wrap64 (x10 * (rd x0 x27))))) > x2)))) else (none)) else (none)) else (none)) else (if x11 < 0 then (some (([] : List Int), false)) else (if x12 < x10 then (some (([] : List Int), false)) else (if 0 ≤ x11 then (if x11 < (x9.length : Int) then (if x8.length < 17592186044416 then (spec_l07Deadline.l0 k x0 x1 x2 (x8 ++ [x11]) (x9.set (x11 : Int).toNat (wrap64 ((rd x9 x11) + 1))) (wrap64 (x10 + 1))) else (none)) else (none)) else (none))))
def spec_l07Deadline.j2 : Nat → List Int → Int → Int → List Int → List Int → Int → Int → Int → Int → Int → Int → Int → Bool → Option (List Int × Bool)
  | 0, _, _, _, _, _, _, _, _, _, _, _, _, _ => none
  | k + 1, x0, x1, x2, x8, x9, x10, x11, x12, x13, x14, x26, x27, x54 => if x54 = true then (spec_l07Deadline.l1 k x0 x1 x2 x8 x9 x10 x11 x12 x26 (wrap64 (x27 + 1))) else (if 0 ≤ x13 then (if x13 < (x0.length : Int) then (if (rd x0 x13) = 0 then (none) else (if x11 < 0 then (spec_l07Deadline.l1 k x0 x1 x2 x8 x9 x10 x13 (mn (wrap64 ((wrap64 (Int.tdiv (wrap64 (x2 + (wrap64 (x1 * (wrap64 (x14 - 1)))))) (rd x0 x13))) + 1)) x1) x26 (wrap64 (x27 + 1))) else (if (mn (wrap64 ((wrap64 (Int.tdiv (wrap64 (x2 + (wrap64 (x1 * (wrap64 (x14 - 1)))))) (rd x0 x13))) + 1)) x1) < x12 then (spec_l07Deadline.l1 k x0 x1 x2 x8 x9 x10 x13 (mn (wrap64 ((wrap64 (Int.tdiv (wrap64 (x2 + (wrap64 (x1 * (wrap64 (x14 - 1)))))) (rd x0 x13))) + 1)) x1) x26 (wrap64 (x27 + 1))) else (spec_l07Deadline.l1 k x0 x1 x2 x8 x9 x10 x11 x12 x26 (wrap64 (x27 + 1)))))) else (none)) else (none))
end
def spec_l07Deadline.f (k : Nat) (l0 : List Int) (a1 : Int) (a2 : Int) : Option (List Int × Bool) := if 0 ≤ (l0.length : Int) then (if ((l0.length : Int) : Int).toNat ≤ 35184372088832 then (spec_l07Deadline.l0 k l0 a1 a2 (([] : List Int)) (List.replicate ((l0.length : Int) : Int).toNat 0) 1) else (none)) else (none)
theorem spec_l07Deadline.mono_l : ∀ k, (∀ y0 y1 y2 y3 y4 y5, LeO (spec_l07Deadline.l0 k y0 y1 y2 y3 y4 y5) (spec_l07Deadline.l0 (k + 1) y0 y1 y2 y3 y4 y5)) ∧ (∀ y0 y1 y2 y3 y4 y5 y6 y7 y8 y9, LeO (spec_l07Deadline.l1 k y0 y1 y2 y3 y4 y5 y6 y7 y8 y9) (spec_l07Deadline.l1 (k + 1) y0 y1 y2 y3 y4 y5 y6 y7 y8 y9)) ∧ (∀ y0 y1 y2 y3 y4 y5 y6 y7 y8 y9 y10 y11 y12, LeO (spec_l07Deadline.j2 k y0 y1 y2 y3 y4 y5 y6 y7 y8 y9 y10 y11 y12) (spec_l07Deadline.j2 (k + 1) y0 y1 y2 y3 y4 y5 y6 y7 y8 y9 y10 y11 y12))
  | 0 => ⟨fun _ _ _ _ _ _ r h => by simp [spec_l07Deadline.l0] at h, fun _ _ _ _ _ _ _ _ _ _ r h => by simp [spec_l07Deadline.l1] at h, fun _ _ _ _ _ _ _ _ _ _ _ _ _ r h => by simp [spec_l07Deadline.j2] at h⟩
  | k + 1 => by
    obtain ⟨ih0, ih1, ih2⟩ := spec_l07Deadline.mono_l k
    refine ⟨?_, ?_, ?_⟩ <;> intros <;> (first | unfold spec_l07Deadline.l0 | unfold spec_l07Deadline.l1 | unfold spec_l07Deadline.j2) <;> repeat' first | (with_reducible exact ih0 _ _ _ _ _ _) | (with_reducible exact ih1 _ _ _ _ _ _ _ _ _ _) | (with_reducible exact ih2 _ _ _ _ _ _ _ _ _ _ _ _ _) | (with_reducible exact LeO.refl _) | (with_reducible exact LeO.none _) | (with_reducible refine LeO.ite ?_ ?_) | (with_reducible refine LeO.bind ?_ (fun _ => ?_)) | exact ih0 _ _ _ _ _ _ | exact ih1 _ _ _ _ _ _ _ _ _ _ | exact ih2 _ _ _ _ _ _ _ _ _ _ _ _ _ | exact LeO.none _ | refine LeO.ite ?_ ?_ | refine LeO.bind ?_ (fun _ => ?_)
theorem spec_l07Deadline.mono : ∀ a0 a1 a2 k, LeO (spec_l07Deadline.f k a0 a1 a2) (spec_l07Deadline.f (k + 1) a0 a1 a2) := by
  intro a0 a1 a2 k
  obtain ⟨ih0, ih1, ih2⟩ := spec_l07Deadline.mono_l k
  unfold spec_l07Deadline.f
  repeat' first | (with_reducible exact ih0 _ _ _ _ _ _) | (with_reducible exact ih1 _ _ _ _ _ _ _ _ _ _) | (with_reducible exact ih2 _ _ _ _ _ _ _ _ _ _ _ _ _) | (with_reducible exact LeO.refl _) | (with_reducible exact LeO.none _) | (with_reducible refine LeO.ite ?_ ?_) | (with_reducible refine LeO.bind ?_ (fun _ => ?_)) | exact ih0 _ _ _ _ _ _ | exact ih1 _ _ _ _ _ _ _ _ _ _ | exact ih2 _ _ _ _ _ _ _ _ _ _ _ _ _ | exact LeO.none _ | refine LeO.ite ?_ ?_ | refine LeO.bind ?_ (fun _ => ?_)
set_option maxHeartbeats 8000000 in
set_option maxRecDepth 100000 in
theorem spec_l07Deadline.calls (k : Nat) (A0 : Option Addr) (c0 : Nat) (l0 : List Int) (a1 : Int) (a2 : Int) (r1 : List Int) (r2 : Bool) (w : World) (hr0 : Kd.C (Kd.int .i64) w A0 l0.length l0) (hc0 : l0.length ≤ c0) (h : spec_l07Deadline.f k l0 a1 a2 = some (r1, r2)) :
    Calls Try.prog 68 #[.slice A0 l0.length c0, .int .i64 a1, .int .i64 a2] w fun e w' => ∃ v0_ : Value, e = .returned (.tuple #[v0_, .bool r2]) ∧ Kd.R (Kd.int .i64) 2 w' w.heap.size (fun _ => True) v0_ r1 ∧ Below w.heap.size w w' := by
 have HR0 := Aside0.mk hr0
 have HC0 := Aside0.mk hc0
 clear hr0 hc0
 have HB := Aside0.mk (Below.refl w.heap.size w)
 have H : (if 0 ≤ (l0.length : Int) then (if ((l0.length : Int) : Int).toNat ≤ 35184372088832 then (spec_l07Deadline.l0 k l0 a1 a2 (([] : List Int)) (List.replicate ((l0.length : Int) : Int).toNat 0) 1) else (none)) else (none)) = some (r1, r2) := h
 clear h
 obtain ⟨y101, hy101⟩ : ∃ y_ : List Int, y_ = (([] : List Int)) := ⟨_, rfl⟩
 replace H : (if 0 ≤ (l0.length : Int) then (if ((l0.length : Int) : Int).toNat ≤ 35184372088832 then (spec_l07Deadline.l0 k l0 a1 a2 y101 (List.replicate ((l0.length : Int) : Int).toNat 0) 1) else (none)) else (none)) = some (r1, r2) := zH hy101
 have Ny101 := Aside0.mk hy101
 clear hy101
 by_cases c4 : 0 ≤ (l0.length : Int)
 case neg => rw [if_neg c4] at H; exact absurd H (by simp)
 rw [if_pos c4] at H
 have c4b0 := eq_true c4
 have c4b1 : decide (0 ≤ (l0.length : Int)) = true := decide_eq_true c4
 clear c4
 by_cases c5 : ((l0.length : Int) : Int).toNat ≤ 35184372088832
 case neg => rw [if_neg c5] at H; exact absurd H (by simp)
 rw [if_pos c5] at H
 have c5b0 := eq_true c5
 have c5b1 : decide (((l0.length : Int) : Int).toNat ≤ 35184372088832) = true := decide_eq_true c5
 clear c5
 obtain ⟨y104, hy104⟩ : ∃ y_ : List Int, y_ = (List.replicate ((l0.length : Int) : Int).toNat 0) := ⟨_, rfl⟩
 replace H : (spec_l07Deadline.l0 k l0 a1 a2 y101 y104 1) = some (r1, r2) := zH hy104
 have Ny104 := Aside0.mk hy104
 clear hy104
 have H' := Aside0.mk H
 clear H
 go_enter Try.func68, Try.ntmps68
 try go_wp2
 replace HB := Aside0.mk (below_drew1 HB.out)
 refine start_ (n := 6) (S := fun w' => True) (ds := []) #[false,false,false,false,false,false] zk rfl rfl trivial (fun hHeld => ?_)
 generalize w.drew = w6 at HB hHeld ⊢
 refine pure_ (i := 1) (N := some 17) (v := ?_) (a' := ?_) #[false,true,false,false,false,false] rfl rfl zk (fun _ _ _ h => h) (Or.inl ⟨by rfl, ?_⟩) ?_ ?_
 rotate_left; exact zp; rotate_left; exact zq
 refine pure_ (i := 2) (N := some 18) (v := ?_) (a' := ?_) #[false,true,true,false,false,false] rfl rfl zk (fun _ _ _ h => h) (Or.inl ⟨by rfl, ?_⟩) ?_ ?_
 rotate_left; exact zp; rotate_left; exact zq
 refine join_ (σ := Value × Value) 1 #[true,true,true,true,true,false] (fun s_ => [(16, s_.1), (19, s_.2), (8, s_.1)]) (fun s_ w' => (Kd.R (Kd.int .i64) 2 w' w.heap.size (fun k_ => some k_ ≠ (s_.2 : Value).ownBlock) s_.1 y101) ∧ (Kd.R (Kd.int .i64) 2 w' w.heap.size (fun k_ => some k_ ≠ (s_.1 : Value).ownBlock) s_.2 y104) ∧ (Below w.heap.size w w')) ?_ ?_
 rotate_left
 ·
  intro hCont
  refine two_ (i := 0) (j := 3) (Ni := some 16) (Nj := some 19) #[true,true,true,false,false,false] #[false,true,true,true,false,false] rfl rfl rfl rfl zk (by decide) (by decide) (fun K hK => ?_) (fun K hK => ?_)
  ·
   skip
   refine Kd.R_lit_step (Kd.int .i64) _ 2 ?hg (N := 16) ?hd (xs := ([] : List Int)) (inner := []) (ok := fun _ => True) (okp := fun _ => True) ?hr ?hp (fun _ hk => hk) trivial (Below.refl _ _) (Nat.le_refl _) (by simp) ?_; (case hd => rfl); (case hg => rfl); (case hr => first | (go_simp; done) | (go_simp; rfl)); (case hp => exact (Reps.none _ _))
   intro v102 w7 ho8 hb hg_ hnew_
   clear hg_ hnew_
   (first | rw [← Ny101.out] at ho8 | (simp only [Int.reduceToNat] at ho8; rw [← Ny101.out] at ho8))
   have n_ := y2 (Kd.R_lower ho8 (below_size (zB))) (below_step (zB) hb)
   clear HB
   obtain ⟨HO103, HB⟩ := n_
   clear hb ho8
   refine hK.out _ _ trivial (fun hHeld => ?_)
   clear hK K
   refine norm_ (a' := ?_) ?_ ?_
   rotate_left
   ·
    show Act.put _ (some 16) _ = _
    simp only [Act.put, List.setIfInBounds_toArray, List.set_cons_zero, List.set_cons_succ, i64_w, i32_w]
    rfl
   refine pure_ (i := 4) (N := some 8) (v := ?_) (a' := ?_) #[true,true,true,false,true,false] rfl rfl zk (fun _ _ _ h => h) (Or.inl ⟨by rfl, ?_⟩) ?_ ?_
   rotate_left; exact zp; rotate_left; exact zq
   refine one_ (i := 3) (N := some 19) #[true,true,true,true,true,false] rfl rfl zk (by decide) (fun K hK => ?_)
   refine Kd.R_make_step (Kd.int .i64) _ 2 (by rfl) (N := 19) rfl 24 _ _ rfl (l0.length : Int) rfl rfl Try.underlying24 (.int .i64 0) 8 info2 rfl (by decide) (by omega) 0 (ok := fun _ => True) (okp := fun _ => True) rfl (fun _ hk => hk) trivial (zD) (Nat.le_trans (Nat.mul_le_mul_right _ (zD : (l0.length : Int).toNat ≤ 35184372088832)) (by omega)) (Below.refl _ _) (Nat.le_refl _) ?_
   intro v105 w9 ho10 hb hg_ hnew_
   clear hg_ hnew_
   (first | rw [← Ny104.out] at ho10 | (simp only [Int.reduceToNat] at ho10; rw [← Ny104.out] at ho10))
   have n_ := y3 (Kd.R_elder' (zR HO103.out) (Kd.R_base ho10) hb) (Kd.R_lower (Kd.R_new' ho10 (Kd.R_lt (zR HO103.out))) (below_size (zB))) (below_step (zB) hb)
   clear HO103 HB
   obtain ⟨HO103, HO106, HB⟩ := n_
   clear hb ho10
   refine hK.out _ _ trivial (fun hHeld => ?_)
   clear hK K
   refine norm_ (a' := ?_) ?_ ?_
   rotate_left
   ·
    show Act.put _ (some 19) _ = _
    simp only [Act.put, List.setIfInBounds_toArray, List.set_cons_zero, List.set_cons_succ, i64_w, i32_w]
    rfl
   exact norm_ (by simp only [putAll, Act.put, List.setIfInBounds_toArray, List.set_cons_zero, List.set_cons_succ]) (hCont (v102, v105) _ ⟨(by refine zR ?_; exact Kd.R_mono HO103.out (fun _ hk => hk.2)), (by refine zR ?_; exact Kd.R_mono HO106.out (fun _ hk => hk.2)), (zB)⟩)
  skip
  refine Kd.R_make_step (Kd.int .i64) _ 2 (by rfl) (N := 19) rfl 24 _ _ rfl (l0.length : Int) rfl rfl Try.underlying24 (.int .i64 0) 8 info2 rfl (by decide) (by omega) 0 (ok := fun _ => True) (okp := fun _ => True) rfl (fun _ hk => hk) trivial (zD) (Nat.le_trans (Nat.mul_le_mul_right _ (zD : (l0.length : Int).toNat ≤ 35184372088832)) (by omega)) (Below.refl _ _) (Nat.le_refl _) ?_
  intro v105 w7 ho8 hb hg_ hnew_
  clear hg_ hnew_
  (first | rw [← Ny104.out] at ho8 | (simp only [Int.reduceToNat] at ho8; rw [← Ny104.out] at ho8))
  have n_ := y2 (Kd.R_lower ho8 (below_size (zB))) (below_step (zB) hb)
  clear HB
  obtain ⟨HO106, HB⟩ := n_
  clear hb ho8
  refine hK.out _ _ trivial (fun hHeld => ?_)
  clear hK K
  refine norm_ (a' := ?_) ?_ ?_
  rotate_left
  ·
   show Act.put _ (some 19) _ = _
   simp only [Act.put, List.setIfInBounds_toArray, List.set_cons_zero, List.set_cons_succ, i64_w, i32_w]
   rfl
  refine one_ (i := 0) (N := some 16) #[true,true,true,true,false,false] rfl rfl zk (by decide) (fun K hK => ?_)
  refine Kd.R_lit_step (Kd.int .i64) _ 2 ?hg (N := 16) ?hd (xs := ([] : List Int)) (inner := []) (ok := fun _ => True) (okp := fun _ => True) ?hr ?hp (fun _ hk => hk) trivial (Below.refl _ _) (Nat.le_refl _) (by simp) ?_; (case hd => rfl); (case hg => rfl); (case hr => first | (go_simp; done) | (go_simp; rfl)); (case hp => exact (Reps.none _ _))
  intro v102 w9 ho10 hb hg_ hnew_
  clear hg_ hnew_
  (first | rw [← Ny101.out] at ho10 | (simp only [Int.reduceToNat] at ho10; rw [← Ny101.out] at ho10))
  have n_ := y3 (Kd.R_elder' (zR HO106.out) (Kd.R_base ho10) hb) (Kd.R_lower (Kd.R_new' ho10 (Kd.R_lt (zR HO106.out))) (below_size (zB))) (below_step (zB) hb)
  clear HO106 HB
  obtain ⟨HO106, HO103, HB⟩ := n_
  clear hb ho10
  refine hK.out _ _ trivial (fun hHeld => ?_)
  clear hK K
  refine norm_ (a' := ?_) ?_ ?_
  rotate_left
  ·
   show Act.put _ (some 16) _ = _
   simp only [Act.put, List.setIfInBounds_toArray, List.set_cons_zero, List.set_cons_succ, i64_w, i32_w]
   rfl
  refine pure_ (i := 4) (N := some 8) (v := ?_) (a' := ?_) #[true,true,true,true,true,false] rfl rfl zk (fun _ _ _ h => h) (Or.inl ⟨by rfl, ?_⟩) ?_ ?_
  rotate_left; exact zp; rotate_left; exact zq
  exact norm_ (by simp only [putAll, Act.put, List.setIfInBounds_toArray, List.set_cons_zero, List.set_cons_succ]) (hCont (v102, v105) _ ⟨(by refine zR ?_; exact Kd.R_mono HO103.out (fun _ hk => hk.2)), (by refine zR ?_; exact Kd.R_mono HO106.out (fun _ hk => hk.2)), (zB)⟩)
 rintro ⟨v102, v105⟩ w11 ⟨h0_, h1_, h2_⟩
 have n0_ : Aside0 (Kd.R (Kd.int .i64) 2 w11 w.heap.size (fun k_ => some k_ ≠ (v105 : Value).ownBlock) v102 y101) := ⟨h0_⟩
 have n1_ : Aside0 (Kd.R (Kd.int .i64) 2 w11 w.heap.size (fun k_ => some k_ ≠ (v102 : Value).ownBlock) v105 y104) := ⟨h1_⟩
 have n2_ : Aside0 (Below w.heap.size w w11) := ⟨h2_⟩
 clear HB
 clear h0_ h1_ h2_
 have HO103 := n0_
 have HO106 := n1_
 have HB := n2_
 clear n0_ n1_ n2_
 have hHeld := trivial
 refine norm_ (a' := ?_) ?_ ?_
 rotate_left
 ·
  simp only [putAll, Act.put, List.setIfInBounds_toArray, List.set_cons_zero, List.set_cons_succ]
  rfl
 refine pure_ (i := 5) (N := some 9) (v := ?_) (a' := ?_) #[true,true,true,true,true,true] rfl rfl zk (fun _ _ _ h => h) (Or.inl ⟨by rfl, ?_⟩) ?_ ?_
 rotate_left; exact zp; rotate_left; exact zq
 refine done_ zk ?_
 try go_wp2
 go_loopg [8, 10] k (fun kq v8 v10 w' => ∃ (x8_1 : List Int) (x9_1 : List Int) (x10_1 : Int), v10 = .int .i64 x10_1 ∧ Aside0 (spec_l07Deadline.l0 kq l0 a1 a2 x8_1 x9_1 x10_1 = some (r1, r2)) ∧ Aside0 (kq ≤ k) ∧ Aside0 (Kd.R (Kd.int .i64) 2 w' w.heap.size (fun k_ => some k_ ≠ (v105 : Value).ownBlock) v8 x8_1) ∧ Aside0 (Kd.R (Kd.int .i64) 2 w' w.heap.size (fun k_ => some k_ ≠ (v8 : Value).ownBlock) v105 x9_1) ∧ Aside0 (Below w.heap.size w w'))
 case atStart => exact ⟨(y101), (y104), (1), zF, H', ⟨Nat.le_refl _⟩, ⟨zR HO103.out⟩, ⟨zR HO106.out⟩, ⟨zB⟩⟩
 clear H'
 try clear c4
 try clear c4b0
 try clear c4b1
 try clear c5
 try clear c5b0
 try clear c5b1
 obtain ⟨x8_1, x9_1, x10_1, rfl, HA, HK1, HO_8, HO_9, HB⟩ := hrel
 cases gk with
 | zero => exact absurd HA.out (by simp [spec_l07Deadline.l0])
 | succ k1 =>
   have H := HA.out
   clear HA
   simp only [spec_l07Deadline.l0] at H
   by_cases c12 : x10_1 ≤ a1
   · rw [if_pos c12] at H
     have c12b0 : decide (x10_1 ≤ a1) = true := decide_eq_true c12
     clear c12
     have H' := Aside0.mk H
     clear H
     go_wp2
     go_loopg [11, 12, 27] k1 (fun kq v11 v12 v27 w' => ∃ (x11_2 : Int) (x12_2 : Int) (x27_2 : Int), v11 = .int .i64 x11_2 ∧ v12 = .int .i64 x12_2 ∧ v27 = .int .i64 x27_2 ∧ Aside0 (spec_l07Deadline.l1 kq l0 a1 a2 x8_1 x9_1 x10_1 x11_2 x12_2 (l0.length : Int) x27_2 = some (r1, r2)) ∧ Aside0 (kq ≤ k1) ∧ Aside0 (Kd.R (Kd.int .i64) 2 w' w.heap.size (fun k_ => some k_ ≠ (v105 : Value).ownBlock) u8 x8_1) ∧ Aside0 (Kd.R (Kd.int .i64) 2 w' w.heap.size (fun k_ => some k_ ≠ (u8 : Value).ownBlock) v105 x9_1) ∧ Aside0 (Below w.heap.size w w'))
     case atStart => exact ⟨((-1)), (0), (0), zF, zF, zF, H', ⟨Nat.le_refl _⟩, ⟨zR HO_8.out⟩, ⟨zR HO_9.out⟩, ⟨zB⟩⟩
     case round =>
       clear H'
       try clear c4
       try clear c4b0
       try clear c4b1
       try clear c5
       try clear c5b0
       try clear c5b1
       try clear c12
       try clear c12b0
       obtain ⟨x11_2, x12_2, x27_2, rfl, rfl, rfl, HA, HK2, HO_8, HO_9, HB⟩ := hrel
       cases gk with
       | zero => exact absurd HA.out (by simp [spec_l07Deadline.l1])
       | succ k2 =>
         have H := HA.out
         clear HA
         simp only [spec_l07Deadline.l1] at H
         by_cases c13 : x27_2 < (l0.length : Int)
         · rw [if_pos c13] at H
           have c13b0 : decide (x27_2 < (l0.length : Int)) = true := decide_eq_true c13
           clear c13
           by_cases c14 : 0 ≤ x27_2
           · rw [if_pos c14] at H
             have c14b0 : decide (0 ≤ x27_2) = true := decide_eq_true c14
             clear c14
             by_cases c15 : x27_2 < (x9_1.length : Int)
             · rw [if_pos c15] at H
               have c15b0 : decide (x27_2 < (x9_1.length : Int)) = true := decide_eq_true c15
               clear c15
               have HC16 := Aside0.mk H
               clear H
               obtain ⟨Ao17, co17, eo17⟩ := Kd.R_slice HO_9.out
               subst eo17
               have p112 : 0 ≤ (x27_2 : Int) := zD
               have q112 : x27_2 < (x9_1.length : Int) := zD
               obtain ⟨ad112, e112, hx112_0⟩ := Kd.at_int (Kd.R_reads' HO_9.out).2.2 x27_2 p112 q112
               cases e112
               replace p112 := eq_true p112
               replace q112 := eq_true q112
               go_upto_region 10 with (fail)
               go_cut [54] (fun v54 wc => ∃ (kq : Nat) (x54_15 : Bool), v54 = .bool x54_15 ∧ Aside0 (spec_l07Deadline.j2 kq l0 a1 a2 x8_1 x9_1 x10_1 x11_2 x12_2 x27_2 (wrap64 ((rd x9_1 x27_2) + 1)) (l0.length : Int) x27_2 x54_15 = some (r1, r2)) ∧ Aside0 (kq ≤ k2) ∧ Aside0 (Kd.R (Kd.int .i64) 2 wc w.heap.size (fun k_ => some k_ ≠ ((.slice (some ad112) x9_1.length co17) : Value).ownBlock) u8 x8_1) ∧ Aside0 (Kd.R (Kd.int .i64) 2 wc w.heap.size (fun k_ => some k_ ≠ (u8 : Value).ownBlock) (.slice (some ad112) x9_1.length co17) x9_1) ∧ Aside0 (Below w.heap.size w wc))
               case first =>
                 have H := HC16.out
                 clear HC16
                 by_cases c18 : x27_2 < (l0.length : Int)
                 · rw [if_pos c18] at H
                   have c18b0 : decide (x27_2 < (l0.length : Int)) = true := decide_eq_true c18
                   clear c18
                   (first | rw [c18b0] | (simp only [i64_w, i32_w]; rw [c18b0]) | skip)
                   by_cases c19 : (wrap64 ((rd x9_1 x27_2) + 1)) > (rd l0 x27_2)
                   · rw [if_pos c19] at H
                     have c19b0 : decide ((rd l0 x27_2) < (wrap64 ((rd x9_1 x27_2) + 1))) = true := decide_eq_true c19
                     clear c19
                     have H' := Aside0.mk H
                     clear H
                     have p113 : 0 ≤ (x27_2 : Int) := zD
                     have q113 : x27_2 < (l0.length : Int) := zD
                     obtain ⟨ad113, e113, hx113_0⟩ := Kd.at_int HR0.out x27_2 p113 q113
                     cases e113
                     replace hx113_0 := (HB.out.cell (World.block_lt_of_cell? w _ hx113_0)).trans hx113_0
                     replace p113 := eq_true p113
                     replace q113 := eq_true q113
                     go_wp2
                     go_meet
                     case rel => exact ⟨_, (true), zF, H', ⟨by have := HK1.out; have := HK2.out; first | omega | exact Nat.le_refl _⟩, ⟨zR HO_8.out⟩, ⟨zR HO_9.out⟩, ⟨zB⟩⟩
                   · rw [if_neg c19] at H
                     have c19b0 : decide ((rd l0 x27_2) < (wrap64 ((rd x9_1 x27_2) + 1))) = false := decide_eq_false c19
                     clear c19
                     have H' := Aside0.mk H
                     clear H
                     have p113 : 0 ≤ (x27_2 : Int) := zD
                     have q113 : x27_2 < (l0.length : Int) := zD
                     obtain ⟨ad113, e113, hx113_0⟩ := Kd.at_int HR0.out x27_2 p113 q113
                     cases e113
                     replace hx113_0 := (HB.out.cell (World.block_lt_of_cell? w _ hx113_0)).trans hx113_0
                     replace p113 := eq_true p113
                     replace q113 := eq_true q113
                     have p114 : 0 ≤ (x27_2 : Int) := zD
                     have q114 : x27_2 < (l0.length : Int) := zD
                     obtain ⟨ad114, e114, hx114_0⟩ := Kd.at_int HR0.out x27_2 p114 q114
                     obtain rfl : ad113 = ad114 := (by injection e114)
                     replace hx114_0 := (HB.out.cell (World.block_lt_of_cell? w _ hx114_0)).trans hx114_0
                     replace p114 := eq_true p114
                     replace q114 := eq_true q114
                     go_wp2
                     go_meet
                     case rel => exact ⟨_, (decide ((wrap64 ((wrap64 (a1 * (wrap64 ((rd x9_1 x27_2) + 1)))) - (wrap64 (x10_1 * (rd l0 x27_2))))) > a2)), zF, H', ⟨by have := HK1.out; have := HK2.out; first | omega | exact Nat.le_refl _⟩, ⟨zR HO_8.out⟩, ⟨zR HO_9.out⟩, ⟨zB⟩⟩
                 · rw [if_neg c18] at H
                   exact absurd H (by simp)
               case rest =>
                 clear HC16
                 try clear c4
                 try clear c4b0
                 try clear c4b1
                 try clear c5
                 try clear c5b0
                 try clear c5b1
                 try clear c12
                 try clear c12b0
                 try clear c13
                 try clear c13b0
                 try clear c14
                 try clear c14b0
                 try clear c15
                 try clear c15b0
                 try clear hx112_0
                 try clear p112
                 try clear q112
                 obtain ⟨kq, x54_15, rfl, HA, HJ15, HO_8, HO_9, HB⟩ := hcut
                 cases kq with
                 | zero => exact absurd HA.out (by simp [spec_l07Deadline.j2])
                 | succ kj15 =>
                   have H := HA.out
                   clear HA
                   simp only [spec_l07Deadline.j2] at H
                   by_cases c20 : x54_15 = true
                   · subst c20
                     have H1 : (spec_l07Deadline.l1 kj15 l0 a1 a2 x8_1 x9_1 x10_1 x11_2 x12_2 (l0.length : Int) (wrap64 (x27_2 + 1))) = some (r1, r2) := by rw [if_pos rfl] at H; exact H
                     clear H
                     have H := H1
                     clear H1
                     have H' := Aside0.mk H
                     clear H
                     go_wp2
                     go_roundg kj15
                     case measure => have := HK1.out; have := HK2.out; have := HJ15.out; omega
                     case rel => exact ⟨(x11_2), (x12_2), (wrap64 (x27_2 + 1)), zF, zF, zF, H', ⟨by have := HK1.out; have := HK2.out; have := HJ15.out; omega⟩, ⟨zR HO_8.out⟩, ⟨zR HO_9.out⟩, ⟨zB⟩⟩
                   · replace c20 := Bool.eq_false_iff.mpr c20
                     subst c20
                     have H1 : (if 0 ≤ x27_2 then (if x27_2 < (l0.length : Int) then (if (rd l0 x27_2) = 0 then (none) else (if x11_2 < 0 then (spec_l07Deadline.l1 kj15 l0 a1 a2 x8_1 x9_1 x10_1 x27_2 (mn (wrap64 ((wrap64 (Int.tdiv (wrap64 (a2 + (wrap64 (a1 * (wrap64 ((wrap64 ((rd x9_1 x27_2) + 1)) - 1)))))) (rd l0 x27_2))) + 1)) a1) (l0.length : Int) (wrap64 (x27_2 + 1))) else (if (mn (wrap64 ((wrap64 (Int.tdiv (wrap64 (a2 + (wrap64 (a1 * (wrap64 ((wrap64 ((rd x9_1 x27_2) + 1)) - 1)))))) (rd l0 x27_2))) + 1)) a1) < x12_2 then (spec_l07Deadline.l1 kj15 l0 a1 a2 x8_1 x9_1 x10_1 x27_2 (mn (wrap64 ((wrap64 (Int.tdiv (wrap64 (a2 + (wrap64 (a1 * (wrap64 ((wrap64 ((rd x9_1 x27_2) + 1)) - 1)))))) (rd l0 x27_2))) + 1)) a1) (l0.length : Int) (wrap64 (x27_2 + 1))) else (spec_l07Deadline.l1 kj15 l0 a1 a2 x8_1 x9_1 x10_1 x11_2 x12_2 (l0.length : Int) (wrap64 (x27_2 + 1)))))) else (none)) else (none)) = some (r1, r2) := by rw [if_neg (show ¬ (false = true) by decide)] at H; exact H
                     clear H
                     have H := H1
                     clear H1
                     by_cases c21 : 0 ≤ x27_2
                     · rw [if_pos c21] at H
                       have c21b0 : decide (0 ≤ x27_2) = true := decide_eq_true c21
                       clear c21
                       by_cases c22 : x27_2 < (l0.length : Int)
                       · rw [if_pos c22] at H
                         have c22b0 : decide (x27_2 < (l0.length : Int)) = true := decide_eq_true c22
                         clear c22
                         by_cases c23 : (rd l0 x27_2) = 0
                         · rw [if_pos c23] at H
                           exact absurd H (by simp)
                         · rw [if_neg c23] at H
                           have c23b0 : ((rd l0 x27_2) == 0) = false := beq_eq_false_iff_ne.mpr c23
                           have c23b1 : ((rd l0 x27_2) != 0) = true := bne_iff_ne.mpr c23
                           obtain ⟨ji24, hji24⟩ : ∃ j_ : Int, (mn (wrap64 ((wrap64 (Int.tdiv (wrap64 (a2 + (wrap64 (a1 * (wrap64 ((wrap64 ((rd x9_1 x27_2) + 1)) - 1)))))) (rd l0 x27_2))) + 1)) a1) = j_ := ⟨_, rfl⟩
                           replace H : (if x11_2 < 0 then (spec_l07Deadline.l1 kj15 l0 a1 a2 x8_1 x9_1 x10_1 x27_2 ji24 (l0.length : Int) (wrap64 (x27_2 + 1))) else (if (ji24) < x12_2 then (spec_l07Deadline.l1 kj15 l0 a1 a2 x8_1 x9_1 x10_1 x27_2 ji24 (l0.length : Int) (wrap64 (x27_2 + 1))) else (spec_l07Deadline.l1 kj15 l0 a1 a2 x8_1 x9_1 x10_1 x11_2 x12_2 (l0.length : Int) (wrap64 (x27_2 + 1))))) = some (r1, r2) := by first | (rw [hji24] at H; exact H) | (simp only [hji24] at H ⊢; exact H)
                           have hji24_ : (if a1 < (wrap64 ((wrap64 (Int.tdiv (wrap64 (a2 + (wrap64 (a1 * (wrap64 ((wrap64 ((rd x9_1 x27_2) + 1)) - 1)))))) (rd l0 x27_2))) + 1)) then a1 else (wrap64 ((wrap64 (Int.tdiv (wrap64 (a2 + (wrap64 (a1 * (wrap64 ((wrap64 ((rd x9_1 x27_2) + 1)) - 1)))))) (rd l0 x27_2))) + 1))) = ji24 := hji24
                           by_cases c25 : x11_2 < 0
                           · rw [if_pos c25] at H
                             have c25b0 : decide (x11_2 < 0) = true := decide_eq_true c25
                             clear c25
                             have H' := Aside0.mk H
                             clear H
                             have p115 : 0 ≤ (x27_2 : Int) := zD
                             have q115 : x27_2 < (l0.length : Int) := zD
                             obtain ⟨ad115, e115, hx115_0⟩ := Kd.at_int HR0.out x27_2 p115 q115
                             cases e115
                             replace hx115_0 := (HB.out.cell (World.block_lt_of_cell? w _ hx115_0)).trans hx115_0
                             replace p115 := eq_true p115
                             replace q115 := eq_true q115
                             go_wp2
                             go_roundg kj15
                             case measure => have := HK1.out; have := HK2.out; have := HJ15.out; omega
                             case rel => exact ⟨(x27_2), (ji24), (wrap64 (x27_2 + 1)), zF, (by first | rfl | (simp; done) | (simp only [← hji24] <;> (first | rfl | simp)) | (simp [*]; done)), zF, H', ⟨by have := HK1.out; have := HK2.out; have := HJ15.out; omega⟩, ⟨zR HO_8.out⟩, ⟨zR HO_9.out⟩, ⟨zB⟩⟩
                           · rw [if_neg c25] at H
                             have c25b0 : decide (x11_2 < 0) = false := decide_eq_false c25
                             clear c25
                             by_cases c26 : (ji24) < x12_2
                             · rw [if_pos c26] at H
                               have c26b0 : decide ((ji24) < x12_2) = true := decide_eq_true c26
                               clear c26
                               have H' := Aside0.mk H
                               clear H
                               have p115 : 0 ≤ (x27_2 : Int) := zD
                               have q115 : x27_2 < (l0.length : Int) := zD
                               obtain ⟨ad115, e115, hx115_0⟩ := Kd.at_int HR0.out x27_2 p115 q115
                               cases e115
                               replace hx115_0 := (HB.out.cell (World.block_lt_of_cell? w _ hx115_0)).trans hx115_0
                               replace p115 := eq_true p115
                               replace q115 := eq_true q115
                               go_wp2
                               go_roundg kj15
                               case measure => have := HK1.out; have := HK2.out; have := HJ15.out; omega
                               case rel => exact ⟨(x27_2), (ji24), (wrap64 (x27_2 + 1)), zF, (by first | rfl | (simp; done) | (simp only [← hji24] <;> (first | rfl | simp)) | (simp [*]; done)), zF, H', ⟨by have := HK1.out; have := HK2.out; have := HJ15.out; omega⟩, ⟨zR HO_8.out⟩, ⟨zR HO_9.out⟩, ⟨zB⟩⟩
                             · rw [if_neg c26] at H
                               have c26b0 : decide ((ji24) < x12_2) = false := decide_eq_false c26
                               clear c26
                               have H' := Aside0.mk H
                               clear H
                               have p115 : 0 ≤ (x27_2 : Int) := zD
                               have q115 : x27_2 < (l0.length : Int) := zD
                               obtain ⟨ad115, e115, hx115_0⟩ := Kd.at_int HR0.out x27_2 p115 q115
                               cases e115
                               replace hx115_0 := (HB.out.cell (World.block_lt_of_cell? w _ hx115_0)).trans hx115_0
                               replace p115 := eq_true p115
                               replace q115 := eq_true q115
                               go_wp2
                               go_roundg kj15
                               case measure => have := HK1.out; have := HK2.out; have := HJ15.out; omega
                               case rel => exact ⟨(x11_2), (x12_2), (wrap64 (x27_2 + 1)), zF, zF, zF, H', ⟨by have := HK1.out; have := HK2.out; have := HJ15.out; omega⟩, ⟨zR HO_8.out⟩, ⟨zR HO_9.out⟩, ⟨zB⟩⟩
                       · rw [if_neg c22] at H
                         exact absurd H (by simp)
                     · rw [if_neg c21] at H
                       exact absurd H (by simp)
             · rw [if_neg c15] at H
               exact absurd H (by simp)
           · rw [if_neg c14] at H
             exact absurd H (by simp)
         · rw [if_neg c13] at H
           have c13b0 : decide (x27_2 < (l0.length : Int)) = false := decide_eq_false c13
           clear c13
           by_cases c27 : x11_2 < 0
           · rw [if_pos c27] at H
             have c27b0 : decide (x11_2 < 0) = true := decide_eq_true c27
             clear c27
             simp only [Option.some.injEq, Prod.mk.injEq] at H
             obtain ⟨rfl, rfl⟩ := H
             go_wp2
             go_ret2
             exact ⟨_, zE, zN, zB⟩
           · rw [if_neg c27] at H
             have c27b0 : decide (x11_2 < 0) = false := decide_eq_false c27
             clear c27
             by_cases c28 : x12_2 < x10_1
             · rw [if_pos c28] at H
               have c28b0 : decide (x12_2 < x10_1) = true := decide_eq_true c28
               clear c28
               simp only [Option.some.injEq, Prod.mk.injEq] at H
               obtain ⟨rfl, rfl⟩ := H
               go_wp2
               go_ret2
               exact ⟨_, zE, zN, zB⟩
             · rw [if_neg c28] at H
               have c28b0 : decide (x12_2 < x10_1) = false := decide_eq_false c28
               clear c28
               by_cases c29 : 0 ≤ x11_2
               · rw [if_pos c29] at H
                 have c29b0 : decide (0 ≤ x11_2) = true := decide_eq_true c29
                 clear c29
                 by_cases c30 : x11_2 < (x9_1.length : Int)
                 · rw [if_pos c30] at H
                   have c30b0 : decide (x11_2 < (x9_1.length : Int)) = true := decide_eq_true c30
                   clear c30
                   obtain ⟨y108, hy108⟩ : ∃ y_ : List Int, y_ = (x9_1.set (x11_2 : Int).toNat (wrap64 ((rd x9_1 x11_2) + 1))) := ⟨_, rfl⟩
                   replace H : (if x8_1.length < 17592186044416 then (spec_l07Deadline.l0 k2 l0 a1 a2 (x8_1 ++ [x11_2]) y108 (wrap64 (x10_1 + 1))) else (none)) = some (r1, r2) := zH hy108
                   have Ny108 := Aside0.mk hy108
                   clear hy108
                   by_cases c32 : x8_1.length < 17592186044416
                   · rw [if_pos c32] at H
                     have LMc32 := Aside0.mk c32
                     clear c32
                     obtain ⟨y109, hy109⟩ : ∃ y_ : List Int, y_ = (x8_1 ++ [x11_2]) := ⟨_, rfl⟩
                     replace H : (spec_l07Deadline.l0 k2 l0 a1 a2 y109 y108 (wrap64 (x10_1 + 1))) = some (r1, r2) := zH hy109
                     have Ny109 := Aside0.mk hy109
                     clear hy109
                     have H' := Aside0.mk H
                     clear H
                     obtain ⟨Ao33, co33, eo33⟩ := Kd.R_slice HO_9.out
                     subst eo33
                     have p107 : 0 ≤ (x11_2 : Int) := zD
                     have q107 : x11_2 < (x9_1.length : Int) := zD
                     obtain ⟨ad107, e107, hx107_0⟩ := Kd.at_int (Kd.R_reads' HO_9.out).2.2 x11_2 p107 q107
                     cases e107
                     replace p107 := eq_true p107
                     replace q107 := eq_true q107
                     have p31 : 0 ≤ (x11_2 : Int) := zD
                     have q31 : (x11_2 : Int) < ((x9_1.length : Int) : Int) := zD
                     obtain ⟨go31, co31, eo31, gb31, gl31, cl31, HG31⟩ := Kd.R_form HO_9.out (by omega)
                     (first | cases eo31 | (injection eo31 with ea_ en_ ec_; (first | subst ea_ | (injection ea_ with ea_; subst ea_)); subst ec_; clear en_))
                     have GB31 := Aside0.mk gb31
                     have GG31 := Aside0.mk HG31
                     clear gb31 gl31 HG31
                     (first | simp only [add_plain] at hx107_0 | skip)
                     obtain ⟨hx31_0, hf31_0⟩ := Kd.R_celln 0 HO_9.out (x11_2 : Int) p31 q31
                     replace p31 := eq_true p31
                     replace q31 := eq_true q31
                     have HP34 := Kd.R_putg HO_9.out (x11_2 : Int) (wrap64 ((rd x9_1 x11_2) + 1))
                     go_wp2_with (first | ((with_reducible refine gate_store (t := 2) (p := 91) rfl ?_); refine store_event (t := 2) (p := 91) (v := ?vo_w35) (w1 := (wr.setCell ⟨go31, (x11_2 : Int).toNat, none⟩ (.int .i64 (wrap64 ((rd x9_1 x11_2) + 1))))) ?hg ?ho ?hn ?hr ?_; (case ho => rfl); (case hg => rfl); (case hn => rfl); (case hr => first | (go_simp; done) | (go_simp; rfl)); intro w35 hw; have hg : wr.grownBy w35 (some go31) := (by rw [hw]; exact HP34.2); have hp_ : Kd.R (Kd.int .i64) 2 w35 w.heap.size (fun k_ => some k_ ≠ (u8 : Value).ownBlock) (.slice (some ⟨go31, 0, none⟩) x9_1.length co33) y108 := (by rw [hw, Ny108.out]; exact HP34.1); clear HP34; have n_ := y3 (Kd.R_after (v := (.slice (some ⟨go31, 0, none⟩) x9_1.length co33)) (v1 := (.slice (some ⟨go31, 0, none⟩) x9_1.length co33)) (ok := (fun _ => True)) (by refine zR ?_; exact Kd.R_mono HO_8.out (fun _ hk => ⟨trivial, hk⟩)) hg (.inl rfl)) (hp_) ((by rw [hw]; exact below_set (HB.out) GB31.out : Below w.heap.size w w35)); clear HO_8 HO_9 HB; obtain ⟨HO_8, HO_9, HB⟩ := n_; clear hg hw hp_) | ((with_reducible refine gate_builtin (b := .append) (xs := #[.tmp 92, .tmp 94]) rfl ?_); at_builtin; refine Kd.R_append (Kd.int .i64) (w0 := w) w.heap.size rfl (.tmp 92) (.tmp 94) 24 2 (.int .i64 0) 8 rfl Try.underlying24 info2 rfl (by decide) (by omega) u8 x8_1 x11_2 [.int .i64 x11_2] (fun k_ => some k_ ≠ (.slice (some ⟨go31, 0, none⟩) x9_1.length co33 : Value).ownBlock) (fun _ => False) rfl rfl ?aP (fun _ hk => hk.elim) ?aF ?aO ?aB ?aS ?aL ?_; (case aP => exact rfl); (case aB => exact (zB)); (case aF => exact (fun k_ hk => Kd.fresh' (Kd.R_lt (zR HO_9.out)) k_ hk)); (case aO => exact (by refine zR ?_; exact Kd.R_mono HO_8.out (fun _ hk => hk.2))); (case aS => exact (below_size (zB))); (case aL => have := LMc32.out; omega); intro v110 w36 ho hb hg hat; rw [← Ny109.out] at ho; have n_ := y3 (Kd.R_after (ok := (fun _ => True)) (by refine zR ?_; exact Kd.R_mono HO_9.out (fun _ hk => ⟨trivial, hk⟩)) hg hat) (hb) (ho); clear HO_9 HB HO_8; obtain ⟨HO_9, HB, HO111⟩ := n_; clear ho hb hg hat))
                     go_roundg k2
                     case measure => have := HK1.out; have := HK2.out; omega
                     case rel => exact ⟨(y109), (y108), (wrap64 (x10_1 + 1)), zF, H', ⟨by have := HK1.out; have := HK2.out; omega⟩, ⟨zR HO111.out⟩, ⟨by refine zR ?_; exact Kd.R_mono HO_9.out (fun _ hk => hk.2)⟩, ⟨zB⟩⟩
                   · rw [if_neg c32] at H
                     exact absurd H (by simp)
                 · rw [if_neg c30] at H
                   exact absurd H (by simp)
               · rw [if_neg c29] at H
                 exact absurd H (by simp)
   · rw [if_neg c12] at H
     have c12b0 : decide (x10_1 ≤ a1) = false := decide_eq_false c12
     clear c12
     simp only [Option.some.injEq, Prod.mk.injEq] at H
     obtain ⟨rfl, rfl⟩ := H
     go_wp2
     go_ret2
     exact ⟨_, zE, by refine zR ?_; exact Kd.R_mono HO_8.out (fun _ hk => trivial), zB⟩
end Go.Proofs.Ytfmjckkgnieccaa.P
end
section
namespace Go.Proofs.Ytfmjckkgnieccaa.P
open Go.RowKit Go.Proofs.YtfmjckkgnieccaaW.PrintWords Go.Proofs.YtfmjckkgnieccaaW.PrintLast Go.Proofs.YtfmjckkgnieccaaW.PrintMore
attribute [local go_sem] max2_int min2_int max_two min_two max_three min_three max_four min_four   -- for this text's walks alone
set_option linter.unusedVariables false
set_option linter.unusedSimpArgs false
def spec_LeastDifference.l0 : Nat → List Int → Int → Int → Option (List Int × Int × Int)
  | 0, _, _, _ => none
  | k + 1, x0, x5, x6 => (spec_l07Deadline.f k x0 x5 x6).bind fun bt102 => (if bt102.2 = true then (some (bt102.1, x6, 0)) else (spec_LeastDifference.l0 k x0 x5 (wrap64 (x6 + 1))))
def spec_LeastDifference.f (k : Nat) (l0 : List Int) : Option (List Int × Int × Int) := (spec_l07Sum.f k l0).bind fun t101 => (if t101 = 0 then (some (([] : List Int), 0, 2)) else (spec_LeastDifference.l0 k l0 t101 0))
theorem spec_LeastDifference.mono_l : ∀ k, (∀ y0 y1 y2, LeO (spec_LeastDifference.l0 k y0 y1 y2) (spec_LeastDifference.l0 (k + 1) y0 y1 y2))
  | 0 => fun _ _ _ r h => by simp [spec_LeastDifference.l0] at h
  | k + 1 => by
    have ih0 := spec_LeastDifference.mono_l k
    · intro y0 y1 y2
      unfold spec_LeastDifference.l0
      repeat' first | (with_reducible exact ih0 _ _ _) | (with_reducible exact spec_l07Deadline.mono _ _ _ _) | (with_reducible exact spec_l07Sum.mono _ _) | (with_reducible exact LeO.refl _) | (with_reducible exact LeO.none _) | (with_reducible refine LeO.ite ?_ ?_) | (with_reducible refine LeO.bind ?_ (fun _ => ?_)) | exact ih0 _ _ _ | exact spec_l07Deadline.mono _ _ _ _ | exact spec_l07Sum.mono _ _ | exact LeO.none _ | refine LeO.ite ?_ ?_ | refine LeO.bind ?_ (fun _ => ?_)
theorem spec_LeastDifference.mono : ∀ a0 k, LeO (spec_LeastDifference.f k a0) (spec_LeastDifference.f (k + 1) a0) := by
  intro a0 k
  have ih0 := spec_LeastDifference.mono_l k
  unfold spec_LeastDifference.f
  repeat' first | (with_reducible exact ih0 _ _ _) | (with_reducible exact spec_l07Deadline.mono _ _ _ _) | (with_reducible exact spec_l07Sum.mono _ _) | (with_reducible exact LeO.refl _) | (with_reducible exact LeO.none _) | (with_reducible refine LeO.ite ?_ ?_) | (with_reducible refine LeO.bind ?_ (fun _ => ?_)) | exact ih0 _ _ _ | exact spec_l07Deadline.mono _ _ _ _ | exact spec_l07Sum.mono _ _ | exact LeO.none _ | refine LeO.ite ?_ ?_ | refine LeO.bind ?_ (fun _ => ?_)
set_option maxHeartbeats 8000000 in
set_option maxRecDepth 100000 in
theorem spec_LeastDifference.calls (k : Nat) (A0 : Option Addr) (c0 : Nat) (l0 : List Int) (r1 : List Int) (r2 : Int) (r3 : Int) (w : World) (hr0 : Kd.C (Kd.int .i64) w A0 l0.length l0) (hc0 : l0.length ≤ c0) (h : spec_LeastDifference.f k l0 = some (r1, r2, r3)) :
    Calls Try.prog 57 #[.slice A0 l0.length c0] w fun e w' => ∃ v0_ : Value, e = .returned (.tuple #[v0_, .int .i64 r2, .int .i64 r3]) ∧ Kd.R (Kd.int .i64) 2 w' w.heap.size (fun _ => True) v0_ r1 ∧ Below w.heap.size w w' := by
 have HR0 := Aside0.mk hr0
 have HC0 := Aside0.mk hc0
 clear hr0 hc0
 have HB := Aside0.mk (Below.refl w.heap.size w)
 have H : ((spec_l07Sum.f k l0).bind fun t101 => (if t101 = 0 then (some (([] : List Int), 0, 2)) else (spec_LeastDifference.l0 k l0 t101 0))) = some (r1, r2, r3) := h
 clear h
 replace H := Option.bind_eq_some_iff.mp H
 obtain ⟨t101, A20, H⟩ := H
 replace H : (if t101 = 0 then (some (([] : List Int), 0, 2)) else (spec_LeastDifference.l0 k l0 t101 0)) = some (r1, r2, r3) := H
 have A2 := Aside0.mk A20
 clear A20
 by_cases c3 : t101 = 0
 ·
  rw [if_pos c3] at H
  have c3b0 : (t101 == 0) = true := beq_iff_eq.mpr c3
  have c3b1 : (t101 != 0) = false := bne_eq_false_iff_eq.mpr c3
  clear c3
  simp only [Option.some.injEq, Prod.mk.injEq] at H
  obtain ⟨rfl, rfl, rfl⟩ := H
  go_enter Try.func57, Try.ntmps57
  go_wp2_with (first | ((with_reducible refine gate_callee (f := 67) rfl ?_); refine goesL_ (some 10) rfl rfl Try.func67 zk rfl #[.slice A0 l0.length c0] rfl zA ?_; (with_reducible refine (spec_l07Sum.calls k _ _ l0 t101 _ ?side1 ?side2 A2.out).mono ?_); (case side1 => exact zC HR0.out); (case side2 => exact HC0.out); rintro e w' ⟨rfl, ⟨nd, rfl⟩⟩; refine ⟨_, rfl, ?_⟩))
  go_ret3
  exact ⟨_, zE, zN, zB⟩
 rw [if_neg c3] at H
 have c3b0 : (t101 == 0) = false := beq_eq_false_iff_ne.mpr c3
 have c3b1 : (t101 != 0) = true := bne_iff_ne.mpr c3
 have H' := Aside0.mk H
 clear H
 go_enter Try.func57, Try.ntmps57
 go_wp2_with (first | ((with_reducible refine gate_callee (f := 67) rfl ?_); refine goesL_ (some 10) rfl rfl Try.func67 zk rfl #[.slice A0 l0.length c0] rfl zA ?_; (with_reducible refine (spec_l07Sum.calls k _ _ l0 t101 _ ?side1 ?side2 A2.out).mono ?_); (case side1 => exact zC HR0.out); (case side2 => exact HC0.out); rintro e w' ⟨rfl, ⟨nd, rfl⟩⟩; refine ⟨_, rfl, ?_⟩))
 go_loopg [6] k (fun kq v6 w' => ∃ (x6_1 : Int), v6 = .int .i64 x6_1 ∧ Aside0 (spec_LeastDifference.l0 kq l0 t101 x6_1 = some (r1, r2, r3)) ∧ Aside0 (kq ≤ k) ∧ Aside0 (Below w.heap.size w w'))
 case atStart => exact ⟨(0), zF, H', ⟨Nat.le_refl _⟩, ⟨zB⟩⟩
 clear H'
 try clear c3
 try clear c3b0
 try clear c3b1
 obtain ⟨x6_1, rfl, HA, HK1, HB⟩ := hrel
 cases gk with
 | zero => exact absurd HA.out (by simp [spec_LeastDifference.l0])
 | succ k1 =>
   have H := HA.out
   clear HA
   simp only [spec_LeastDifference.l0] at H
   replace H := Option.bind_eq_some_iff.mp H
   obtain ⟨⟨t102, t103⟩, A40, H⟩ := H
   replace H : (if t103 = true then (some (t102, x6_1, 0)) else (spec_LeastDifference.l0 k1 l0 t101 (wrap64 (x6_1 + 1)))) = some (r1, r2, r3) := H
   have A4 := Aside0.mk A40
   clear A40
   by_cases c5 : t103 = true
   · subst c5
     have H1 : (some (t102, x6_1, 0)) = some (r1, r2, r3) := by rw [if_pos rfl] at H; exact H
     clear H
     have H := H1
     clear H1
     simp only [Option.some.injEq, Prod.mk.injEq] at H
     obtain ⟨rfl, rfl, rfl⟩ := H
     go_wp2_with (first | ((with_reducible refine gate_callee (f := 68) rfl ?_); refine goesL_ (some 19) rfl rfl Try.func68 zk rfl #[.slice A0 l0.length c0, .int .i64 t101, .int .i64 x6_1] rfl zA ?_; (with_reducible refine (spec_l07Deadline.calls k1 _ _ l0 t101 x6_1 t102 true _ ?side1 ?side2 A4.out).mono ?_); (case side1 => exact zC (Kd.C_below HR0.out HB.out)); (case side2 => exact HC0.out); rintro e w6 ⟨v104, rfl, ho0, hb⟩; refine ⟨_, rfl, ?_⟩; have n_ := y2 (Kd.R_lower ho0 (below_size (zB))) (below_step (zB) hb); clear HB; obtain ⟨HO105, HB⟩ := n_; (try clear hb); (try clear hb2); (try clear hk); (try clear hi); (try clear ho0)))
     go_ret3
     exact ⟨_, zE, zR HO105.out, zB⟩
   · replace c5 := Bool.eq_false_iff.mpr c5
     subst c5
     have H1 : (spec_LeastDifference.l0 k1 l0 t101 (wrap64 (x6_1 + 1))) = some (r1, r2, r3) := by rw [if_neg (show ¬ (false = true) by decide)] at H; exact H
     clear H
     have H := H1
     clear H1
     have H' := Aside0.mk H
     clear H
     go_wp2_with (first | ((with_reducible refine gate_callee (f := 68) rfl ?_); refine goesL_ (some 19) rfl rfl Try.func68 zk rfl #[.slice A0 l0.length c0, .int .i64 t101, .int .i64 x6_1] rfl zA ?_; (with_reducible refine (spec_l07Deadline.calls k1 _ _ l0 t101 x6_1 t102 false _ ?side1 ?side2 A4.out).mono ?_); (case side1 => exact zC (Kd.C_below HR0.out HB.out)); (case side2 => exact HC0.out); rintro e w7 ⟨v104, rfl, ho0, hb⟩; refine ⟨_, rfl, ?_⟩; have n_ := y2 (Kd.R_lower ho0 (below_size (zB))) (below_step (zB) hb); clear HB; obtain ⟨HO105, HB⟩ := n_; (try clear hb); (try clear hb2); (try clear hk); (try clear hi); (try clear ho0)))
     go_roundg k1
     case measure => have := HK1.out; omega
     case rel => exact ⟨(wrap64 (x6_1 + 1)), zF, H', ⟨by have := HK1.out; omega⟩, ⟨zB⟩⟩
end Go.Proofs.Ytfmjckkgnieccaa.P
end
section
namespace Go.Proofs.Ytfmjckkgnieccaa.P
open Go.RowKit Go.Proofs.YtfmjckkgnieccaaW.PrintWords Go.Proofs.YtfmjckkgnieccaaW.PrintLast Go.Proofs.YtfmjckkgnieccaaW.PrintMore
attribute [local go_sem] max2_int min2_int max_two min_two max_three min_three max_four min_four   -- for this text's walks alone
set_option linter.unusedVariables false
set_option linter.unusedSimpArgs false
def spec_l07Doubled.f : Nat → Int → Option (List Int)
  | 0, _ => none
  | k + 1, a0 => if a0 = 0 then (some (([] : List Int))) else ((spec_l07Doubled.f k (wrap64 (a0 - 1))).bind fun t104 => ((spec_l01Own.f t104).bind fun t107 => (if t107.length < 17592186044416 then ((some (t107 ++ [wrap64 (a0 - 1)] : List Int)).bind fun y110 => (if y110.length + t104.length < 17592186044416 then (some (y110 ++ t104)) else (none))) else (none))))
theorem spec_l07Doubled.mono_l : ∀ k, (∀ y0, LeO (spec_l07Doubled.f k y0) (spec_l07Doubled.f (k + 1) y0))
  | 0 => fun _ r h => by simp [spec_l07Doubled.f] at h
  | k + 1 => by
    have ih0 := spec_l07Doubled.mono_l k
    · intro y0
      unfold spec_l07Doubled.f
      repeat' first | (with_reducible exact ih0 _) | (with_reducible exact LeO.refl _) | (with_reducible exact LeO.none _) | (with_reducible refine LeO.ite ?_ ?_) | (with_reducible refine LeO.bind ?_ (fun _ => ?_)) | exact ih0 _ | exact LeO.none _ | refine LeO.ite ?_ ?_ | refine LeO.bind ?_ (fun _ => ?_)
theorem spec_l07Doubled.mono : ∀ a0 k, LeO (spec_l07Doubled.f k a0) (spec_l07Doubled.f (k + 1) a0) := by
  intro a0 k
  have ih0 := spec_l07Doubled.mono_l k
  exact ih0 a0
set_option maxHeartbeats 8000000 in
set_option maxRecDepth 100000 in
theorem spec_l07Doubled.calls (k : Nat) : ∀ (a0 : Int) (r : List Int) (w : World) (h : spec_l07Doubled.f k a0 = some r),
    Calls Try.prog 58 #[.int .i64 a0] w fun e w' => ∃ v0_ : Value, e = .returned (v0_) ∧ Kd.R (Kd.int .i64) 2 w' w.heap.size (fun _ => True) v0_ r ∧ Below w.heap.size w w' := by
 induction k using Nat.strongRecOn with
 | _ k ih =>
 intro a0 r w h
 cases k with
 | zero => exact absurd h (by simp [spec_l07Doubled.f])
 | succ k =>
 simp only [spec_l07Doubled.f] at h
 have HB := Aside0.mk (Below.refl w.heap.size w)
 have H : (if a0 = 0 then (some (([] : List Int))) else ((spec_l07Doubled.f k (wrap64 (a0 - 1))).bind fun t104 => ((spec_l01Own.f t104).bind fun t107 => (if t107.length < 17592186044416 then ((some (t107 ++ [wrap64 (a0 - 1)] : List Int)).bind fun y110 => (if y110.length + t104.length < 17592186044416 then (some (y110 ++ t104)) else (none))) else (none))))) = some r := h
 clear h
 by_cases c2 : a0 = 0
 ·
  rw [if_pos c2] at H
  have c2b0 : (a0 == 0) = true := beq_iff_eq.mpr c2
  have c2b1 : (a0 != 0) = false := bne_eq_false_iff_eq.mpr c2
  clear c2
  obtain ⟨y101, hy101⟩ : ∃ y_ : List Int, y_ = (([] : List Int)) := ⟨_, rfl⟩
  replace H : (some y101) = some r := zH hy101
  have Ny101 := Aside0.mk hy101
  clear hy101
  obtain rfl := Option.some.inj H
  go_enter Try.func58, Try.ntmps58
  go_wp2_with (first | ((with_reducible refine gate_dst (N := 6) rfl ?_); refine Kd.R_lit (Kd.int .i64) _ 2 ?hg (N := 6) ?hd (xs := ([] : List Int)) (inner := []) (ok := fun _ => True) (okp := fun _ => True) ?hr ?hp (fun _ hk => hk) trivial (Below.refl _ _) (Nat.le_refl _) (by simp) ?_; (case hd => rfl); (case hg => rfl); (case hr => first | (go_simp; done) | (go_simp; rfl)); (case hp => exact (Reps.none _ _)); intro v102 w3 ho4 hb hg_ hnew_; clear hg_ hnew_; (first | rw [← Ny101.out] at ho4 | (simp only [Int.reduceToNat] at ho4; rw [← Ny101.out] at ho4)); have n_ := y2 (Kd.R_lower ho4 (below_size (zB))) (below_step (zB) hb); clear HB; obtain ⟨HO103, HB⟩ := n_; clear hb ho4))
  go_ret
  exact ⟨_, zE, zR HO103.out, zB⟩
 rw [if_neg c2] at H
 have c2b0 : (a0 == 0) = false := beq_eq_false_iff_ne.mpr c2
 have c2b1 : (a0 != 0) = true := bne_iff_ne.mpr c2
 replace H := Option.bind_eq_some_iff.mp H
 obtain ⟨t104, A50, H⟩ := H
 replace H : ((spec_l01Own.f t104).bind fun t107 => (if t107.length < 17592186044416 then ((some (t107 ++ [wrap64 (a0 - 1)] : List Int)).bind fun y110 => (if y110.length + t104.length < 17592186044416 then (some (y110 ++ t104)) else (none))) else (none))) = some r := H
 have A5 := Aside0.mk A50
 clear A50
 replace H := Option.bind_eq_some_iff.mp H
 obtain ⟨t107, A60, H⟩ := H
 replace H : (if t107.length < 17592186044416 then ((some (t107 ++ [wrap64 (a0 - 1)] : List Int)).bind fun y110 => (if y110.length + t104.length < 17592186044416 then (some (y110 ++ t104)) else (none))) else (none)) = some r := H
 have A6 := Aside0.mk A60
 clear A60
 by_cases c7 : t107.length < 17592186044416
 case neg => rw [if_neg c7] at H; exact absurd H (by simp)
 rw [if_pos c7] at H
 have LMc7 := Aside0.mk c7
 clear c7
 obtain ⟨y110, hy110⟩ : ∃ y_ : List Int, y_ = (t107 ++ [wrap64 (a0 - 1)]) := ⟨_, rfl⟩
 replace H : (if y110.length + t104.length < 17592186044416 then (some (y110 ++ t104)) else (none)) = some r := zH hy110
 have Ny110 := Aside0.mk hy110
 clear hy110
 by_cases c8 : y110.length + t104.length < 17592186044416
 case neg => rw [if_neg c8] at H; exact absurd H (by simp)
 rw [if_pos c8] at H
 have LMc8 := Aside0.mk c8
 clear c8
 obtain ⟨y113, hy113⟩ : ∃ y_ : List Int, y_ = (y110 ++ t104) := ⟨_, rfl⟩
 replace H : (some y113) = some r := zH hy113
 have Ny113 := Aside0.mk hy113
 clear hy113
 obtain rfl := Option.some.inj H
 go_enter Try.func58, Try.ntmps58
 go_wp2_with (first | ((with_reducible refine gate_callee (f := 58) rfl ?_); refine goesL_ (some 9) rfl rfl Try.func58 zk rfl #[.int .i64 (wrap64 (a0 - 1))] rfl zA ?_; (with_reducible refine (ih k (by omega) (wrap64 (a0 - 1)) t104 _ A5.out).mono ?_); rintro e w9 ⟨v105, rfl, ho0, hb⟩; refine ⟨_, rfl, ?_⟩; have n_ := y2 (Kd.R_lower ho0 (below_size (zB))) (below_step (zB) hb); clear HB; obtain ⟨HO106, HB⟩ := n_; (try clear hb); (try clear hb2); (try clear hk); (try clear hi); (try clear ho0); obtain ⟨Ao10, co10, eo10⟩ := Kd.R_slice HO106.out; subst eo10) | ((with_reducible refine gate_callee (f := 32) rfl ?_); refine goesL_ (some 11) rfl rfl Try.func32 zk rfl #[.slice Ao10 t104.length co10] rfl zA ?_; (with_reducible refine (spec_l01Own.calls _ _ t104 t107 _ ?side1 ?side2 A6.out).mono ?_); (case side1 => exact zC (Kd.R_reads' HO106.out).2.2); (case side2 => exact (Kd.R_reads' HO106.out).2.1); rintro e w11 ⟨v108, rfl, ho0, hb⟩; refine ⟨_, rfl, ?_⟩; have n_ := y3 (Kd.R_elder' (zR HO106.out) (Kd.R_base ho0) hb) (Kd.R_lower (Kd.R_new' ho0 (Kd.R_lt (zR HO106.out))) (below_size (zB))) (below_step (zB) hb); clear HO106 HB; obtain ⟨HO106, HO109, HB⟩ := n_; (try clear hb); (try clear hb2); (try clear hk); (try clear hi); (try clear ho0)) | ((with_reducible refine gate_builtin (b := .append) (xs := #[.tmp 11, .tmp 14]) rfl ?_); at_builtin; refine Kd.R_append (Kd.int .i64) (w0 := w) w.heap.size rfl (.tmp 11) (.tmp 14) 24 2 (.int .i64 0) 8 rfl Try.underlying24 info2 rfl (by decide) (by omega) v108 t107 (wrap64 (a0 - 1)) [.int .i64 (wrap64 (a0 - 1))] (fun k_ => some k_ ≠ (.slice Ao10 t104.length co10 : Value).ownBlock) (fun _ => False) rfl rfl ?aP (fun _ hk => hk.elim) ?aF ?aO ?aB ?aS ?aL ?_; (case aP => exact rfl); (case aB => exact (zB)); (case aF => exact (fun k_ hk => Kd.fresh' (Kd.R_lt (zR HO106.out)) k_ hk)); (case aO => exact (by refine zR ?_; exact Kd.R_mono HO109.out (fun _ hk => hk.2))); (case aS => exact (below_size (zB))); (case aL => have := LMc7.out; omega); intro v111 w12 ho hb hg hat; rw [← Ny110.out] at ho; have n_ := y3 (Kd.R_after (ok := (fun _ => True)) (zR HO106.out) hg hat) (hb) (ho); clear HO106 HB HO109; obtain ⟨HO106, HB, HO112⟩ := n_; clear ho hb hg hat) | ((with_reducible refine gate_builtin (b := .append) (xs := #[.tmp 15, .tmp 16]) rfl ?_); at_builtin; refine Kd.R_append_rows (Kd.int .i64) (w0 := w) w.heap.size rfl (.tmp 15) (.tmp 16) 24 2 (.int .i64 0) 8 rfl Try.underlying24 info2 rfl (by decide) (by omega) v111 y110 t104 _ _ _ (fun k_ => some k_ ≠ (.slice Ao10 t104.length co10 : Value).ownBlock) (fun _ => False) rfl rfl ?aO ?aR (fun _ _ h => h) (fun _ h => h.elim) ?aF ?aB ?aS ?aL ?_; (case aR => repeat (first | exact (Kd.R_reads' HO106.out).2.2 | (with_reducible refine Kd.C_alloc ?_ _) | (with_reducible refine Kd.C_drewN ?_ _) | (with_reducible refine Kd.C_drew ?_))); (case aB => exact (zB)); (case aF => exact (fun k_ hk => Kd.fresh' (Kd.R_lt (zR HO106.out)) k_ hk)); (case aO => exact (zR HO112.out)); (case aS => exact (below_size (zB))); (case aL => have := LMc8.out; omega); intro v114 w13 ho hb hg hat; rw [← Ny113.out] at ho; have n_ := y3 (Kd.R_after (ok := (fun _ => True)) (zR HO106.out) hg hat) (hb) (ho); clear HO106 HB HO112; obtain ⟨HO106, HB, HO115⟩ := n_; clear ho hb hg hat))
 go_ret
 exact ⟨_, zE, by refine zR ?_; exact Kd.R_mono HO115.out (fun _ hk => trivial), zB⟩
end Go.Proofs.Ytfmjckkgnieccaa.P
end
section
namespace Go.Proofs.Ytfmjckkgnieccaa.P
open Go.RowKit Go.Proofs.YtfmjckkgnieccaaW.PrintWords Go.Proofs.YtfmjckkgnieccaaW.PrintLast Go.Proofs.YtfmjckkgnieccaaW.PrintMore
attribute [local go_sem] max2_int min2_int max_two min_two max_three min_three max_four min_four   -- for this text's walks alone
set_option linter.unusedVariables false
set_option linter.unusedSimpArgs false
def spec_l01BadTurns.l0 : Nat → List Int → List Int → Int → Int → Option (List Int × Int × Int)
  | 0, _, _, _, _ => none
  | k + 1, x5, x1000, x1001, x1002 => if (x5.length : Int) ≤ 120 then (if x5.length < 17592186044416 then (spec_l01BadTurns.l0 k (x5 ++ [(-1)]) x1000 x1001 x1002) else (none)) else (some (x5, x1001, x1002))
def spec_l01BadTurns.f (k : Nat) (s0_0 : List Int) (s0_1 : Int) (s0_2 : Int) (l1 : List Int) : Option (List Int × Int × Int) := (spec_l01Own.f l1).bind fun t101 => ((spec_l01Next.f s0_0 s0_1 s0_2 40).bind fun bt104 => (if bt104.1 = 0 then (some ((([] : List Int)), bt104.2.1, bt104.2.2)) else (if bt104.1 = 1 then ((spec_l01Next.f s0_0 bt104.2.1 bt104.2.2 (t101.length : Int)).bind fun bt110 => ((spec_l01Pick.f s0_0 bt110.2.1 bt110.2.2 (([(-2), 8, 1099511627776, 7] : List Int))).bind fun bt116 => (if 0 ≤ bt110.1 then (if bt110.1 < (t101.length : Int) then (some ((t101.set (bt110.1 : Int).toNat bt116.1), bt116.2.1, bt116.2.2)) else (none)) else (none)))) else (if bt104.1 = 2 then (spec_l01BadTurns.l0 k t101 s0_0 bt104.2.1 bt104.2.2) else (some (t101, bt104.2.1, bt104.2.2))))))
theorem spec_l01BadTurns.mono_l : ∀ k, (∀ y0 y1 y2 y3, LeO (spec_l01BadTurns.l0 k y0 y1 y2 y3) (spec_l01BadTurns.l0 (k + 1) y0 y1 y2 y3))
  | 0 => fun _ _ _ _ r h => by simp [spec_l01BadTurns.l0] at h
  | k + 1 => by
    have ih0 := spec_l01BadTurns.mono_l k
    · intro y0 y1 y2 y3
      unfold spec_l01BadTurns.l0
      repeat' first | (with_reducible exact ih0 _ _ _ _) | (with_reducible exact LeO.refl _) | (with_reducible exact LeO.none _) | (with_reducible refine LeO.ite ?_ ?_) | (with_reducible refine LeO.bind ?_ (fun _ => ?_)) | exact ih0 _ _ _ _ | exact LeO.none _ | refine LeO.ite ?_ ?_ | refine LeO.bind ?_ (fun _ => ?_)
theorem spec_l01BadTurns.mono : ∀ a0 a1 a2 a3 k, LeO (spec_l01BadTurns.f k a0 a1 a2 a3) (spec_l01BadTurns.f (k + 1) a0 a1 a2 a3) := by
  intro a0 a1 a2 a3 k
  have ih0 := spec_l01BadTurns.mono_l k
  unfold spec_l01BadTurns.f
  repeat' first | (with_reducible exact ih0 _ _ _ _) | (with_reducible exact LeO.refl _) | (with_reducible exact LeO.none _) | (with_reducible refine LeO.ite ?_ ?_) | (with_reducible refine LeO.bind ?_ (fun _ => ?_)) | exact ih0 _ _ _ _ | exact LeO.none _ | refine LeO.ite ?_ ?_ | refine LeO.bind ?_ (fun _ => ?_)
set_option maxHeartbeats 8000000 in
set_option maxRecDepth 100000 in
theorem spec_l01BadTurns.calls (k : Nat) (g : Nat) (s0_0 : List Int) (s0_1 : Int) (s0_2 : Int) (A1 : Option Addr) (c1 : Nat) (l1 : List Int) (r1 : List Int) (r2 : Int) (r3 : Int) (w0 w : World) (hI : IsS60 w0 w g s0_0 s0_1 s0_2) (hB : Below w0.heap.size w0 w) (hr1 : Kd.C (Kd.int .i64) w A1 l1.length l1) (hc1 : l1.length ≤ c1) (hf1 : ∀ ad, A1 = some ad → 0 < l1.length → ad.block ≠ g) (h : spec_l01BadTurns.f k s0_0 s0_1 s0_2 l1 = some (r1, r2, r3)) :
    Calls Try.prog 59 #[.pointer (some ⟨g, 0, none⟩), .slice A1 l1.length c1] w fun e w' => ∃ v0_ : Value, e = .returned (v0_) ∧ Kd.R (Kd.int .i64) 2 w' w.heap.size (fun _ => True) v0_ r1 ∧ IsS60 w0 w' g s0_0 r2 r3 ∧ Below w0.heap.size w0 w' ∧ KeepBut w w' g none := by
 have HR1 := Aside0.mk hr1
 have HC1 := Aside0.mk hc1
 clear hr1 hc1
 have HI0 := Aside0.mk hI
 have HK := Aside0.mk (KeepBut.refl w g none)
 have HL := Aside0.mk hB.size
 clear hI
 have HW0 := Aside0.mk hB.size
 have HB := Aside0.mk hB
 clear hB
 have H : ((spec_l01Own.f l1).bind fun t101 => ((spec_l01Next.f s0_0 s0_1 s0_2 40).bind fun bt104 => (if bt104.1 = 0 then (some ((([] : List Int)), bt104.2.1, bt104.2.2)) else (if bt104.1 = 1 then ((spec_l01Next.f s0_0 bt104.2.1 bt104.2.2 (t101.length : Int)).bind fun bt110 => ((spec_l01Pick.f s0_0 bt110.2.1 bt110.2.2 (([(-2), 8, 1099511627776, 7] : List Int))).bind fun bt116 => (if 0 ≤ bt110.1 then (if bt110.1 < (t101.length : Int) then (some ((t101.set (bt110.1 : Int).toNat bt116.1), bt116.2.1, bt116.2.2)) else (none)) else (none)))) else (if bt104.1 = 2 then (spec_l01BadTurns.l0 k t101 s0_0 bt104.2.1 bt104.2.2) else (some (t101, bt104.2.1, bt104.2.2))))))) = some (r1, r2, r3) := h
 clear h
 replace H := Option.bind_eq_some_iff.mp H
 obtain ⟨t101, A30, H⟩ := H
 replace H : ((spec_l01Next.f s0_0 s0_1 s0_2 40).bind fun bt104 => (if bt104.1 = 0 then (some ((([] : List Int)), bt104.2.1, bt104.2.2)) else (if bt104.1 = 1 then ((spec_l01Next.f s0_0 bt104.2.1 bt104.2.2 (t101.length : Int)).bind fun bt110 => ((spec_l01Pick.f s0_0 bt110.2.1 bt110.2.2 (([(-2), 8, 1099511627776, 7] : List Int))).bind fun bt116 => (if 0 ≤ bt110.1 then (if bt110.1 < (t101.length : Int) then (some ((t101.set (bt110.1 : Int).toNat bt116.1), bt116.2.1, bt116.2.2)) else (none)) else (none)))) else (if bt104.1 = 2 then (spec_l01BadTurns.l0 k t101 s0_0 bt104.2.1 bt104.2.2) else (some (t101, bt104.2.1, bt104.2.2)))))) = some (r1, r2, r3) := H
 have A3 := Aside0.mk A30
 clear A30
 replace H := Option.bind_eq_some_iff.mp H
 obtain ⟨⟨t104, t105, t106⟩, A40, H⟩ := H
 replace H : (if t104 = 0 then (some ((([] : List Int)), t105, t106)) else (if t104 = 1 then ((spec_l01Next.f s0_0 t105 t106 (t101.length : Int)).bind fun bt110 => ((spec_l01Pick.f s0_0 bt110.2.1 bt110.2.2 (([(-2), 8, 1099511627776, 7] : List Int))).bind fun bt116 => (if 0 ≤ bt110.1 then (if bt110.1 < (t101.length : Int) then (some ((t101.set (bt110.1 : Int).toNat bt116.1), bt116.2.1, bt116.2.2)) else (none)) else (none)))) else (if t104 = 2 then (spec_l01BadTurns.l0 k t101 s0_0 t105 t106) else (some (t101, t105, t106))))) = some (r1, r2, r3) := H
 have A4 := Aside0.mk A40
 clear A40
 by_cases c5 : t104 = 0
 ·
  rw [if_pos c5] at H
  have c5b0 : (t104 == 0) = true := beq_iff_eq.mpr c5
  have c5b1 : (t104 != 0) = false := bne_eq_false_iff_eq.mpr c5
  clear c5
  obtain ⟨y107, hy107⟩ : ∃ y_ : List Int, y_ = (([] : List Int)) := ⟨_, rfl⟩
  replace H : (some (y107, t105, t106)) = some (r1, r2, r3) := zH hy107
  have Ny107 := Aside0.mk hy107
  clear hy107
  simp only [Option.some.injEq, Prod.mk.injEq] at H
  obtain ⟨rfl, rfl, rfl⟩ := H
  go_enter Try.func59, Try.ntmps59
  go_wp2_with (first | ((with_reducible refine gate_callee (f := 32) rfl ?_); refine goesL_ (some 7) rfl rfl Try.func32 zk rfl #[.slice A1 l1.length c1] rfl zA ?_; (with_reducible refine (spec_l01Own.calls _ _ l1 t101 _ ?side1 ?side2 A3.out).mono ?_); (case side1 => exact Kd.C_keep 0 HR1.out (zK) hf1); (case side2 => exact HC1.out); rintro e w6 ⟨v102, rfl, ho0, hb⟩; refine ⟨_, rfl, ?_⟩; have n_ := y4 (Kd.R_lower ho0 (keep_size (w := w) (g := g) (row := none) (zK))) (IsS60.below (zI) hb) (KeepBut.trans (zK) (KeepBut.of_below hb g none) (.inl rfl)) (below_step (zB) hb); clear HI0 HK HB; obtain ⟨HO103, HI0, HK, HB⟩ := n_; (try clear hb); (try clear hb2); (try clear hk); (try clear hi); (try clear ho0)) | ((with_reducible refine gate_callee (f := 55) rfl ?_); refine goesL_ (some 9) rfl rfl Try.func55 zk rfl #[.pointer (some ⟨g, 0, none⟩), .int .i64 40] rfl zA ?_; (with_reducible refine (spec_l01Next.calls g s0_0 s0_1 s0_2 40 t104 t105 t106 w0 _ ?side1 ?side2 A4.out).mono ?_); (case side1 => exact zI); (case side2 => exact zB); rintro e w7 ⟨rfl, hi, hb, hk⟩; refine ⟨_, rfl, ?_⟩; have n_ := y4 (Kd.R_mono (Kd.R_keep (IsS60.apart (show IsS60 w0 _ g s0_0 s0_1 s0_2 from zI) (zR HO103.out) (by decide)) hk (fun _ h => h.2)) (fun _ h => h.1)) (KeepBut.trans (zK) hk (.inl rfl)) (hb) (hi); clear HO103 HK HB HI0; obtain ⟨HO103, HK, HB, HI0⟩ := n_; (try clear hb); (try clear hb2); (try clear hk); (try clear hi)) | ((with_reducible refine gate_dst (N := 12) rfl ?_); refine Kd.R_lit (Kd.int .i64) _ 2 ?hg (N := 12) ?hd (xs := ([] : List Int)) (inner := []) (ok := fun _ => True) (okp := fun _ => True) ?hr ?hp (fun _ hk => hk) trivial (Below.refl _ _) (Nat.le_refl _) (by simp) ?_; (case hd => rfl); (case hg => rfl); (case hr => first | (go_simp; done) | (go_simp; rfl)); (case hp => exact (Reps.none _ _)); intro v108 w8 ho9 hb hg_ hnew_; clear hg_ hnew_; (first | rw [← Ny107.out] at ho9 | (simp only [Int.reduceToNat] at ho9; rw [← Ny107.out] at ho9)); have n_ := y5 (Kd.R_elder' (zR HO103.out) (Kd.R_base ho9) hb) (Kd.R_lower (Kd.R_new' ho9 (Kd.R_lt (zR HO103.out))) (keep_size (w := w) (g := g) (row := none) (zK))) (IsS60.below (zI) hb) (KeepBut.trans (zK) (KeepBut.of_below hb g none) (.inl rfl)) (below_step (zB) hb); clear HO103 HI0 HK HB; obtain ⟨HO103, HO109, HI0, HK, HB⟩ := n_; clear hb ho9))
  go_ret
  exact ⟨_, zE, by refine zR ?_; exact Kd.R_mono HO109.out (fun _ hk => trivial), zI, zB, zK⟩
 rw [if_neg c5] at H
 have c5b0 : (t104 == 0) = false := beq_eq_false_iff_ne.mpr c5
 have c5b1 : (t104 != 0) = true := bne_iff_ne.mpr c5
 by_cases c10 : t104 = 1
 ·
  rw [if_pos c10] at H
  have c10b0 : (t104 == 1) = true := beq_iff_eq.mpr c10
  have c10b1 : (t104 != 1) = false := bne_eq_false_iff_eq.mpr c10
  clear c10
  replace H := Option.bind_eq_some_iff.mp H
  obtain ⟨⟨t110, t111, t112⟩, A110, H⟩ := H
  replace H : ((spec_l01Pick.f s0_0 t111 t112 (([(-2), 8, 1099511627776, 7] : List Int))).bind fun bt116 => (if 0 ≤ t110 then (if t110 < (t101.length : Int) then (some ((t101.set (t110 : Int).toNat bt116.1), bt116.2.1, bt116.2.2)) else (none)) else (none))) = some (r1, r2, r3) := H
  have A11 := Aside0.mk A110
  clear A110
  obtain ⟨y113, hy113⟩ : ∃ y_ : List Int, y_ = (([(-2), 8, 1099511627776, 7] : List Int)) := ⟨_, rfl⟩
  replace H : ((spec_l01Pick.f s0_0 t111 t112 y113).bind fun bt116 => (if 0 ≤ t110 then (if t110 < (t101.length : Int) then (some ((t101.set (t110 : Int).toNat bt116.1), bt116.2.1, bt116.2.2)) else (none)) else (none))) = some (r1, r2, r3) := zH hy113
  have Ny113 := Aside0.mk hy113
  clear hy113
  replace H := Option.bind_eq_some_iff.mp H
  obtain ⟨⟨t116, t117, t118⟩, A120, H⟩ := H
  replace H : (if 0 ≤ t110 then (if t110 < (t101.length : Int) then (some ((t101.set (t110 : Int).toNat t116), t117, t118)) else (none)) else (none)) = some (r1, r2, r3) := H
  have A12 := Aside0.mk A120
  clear A120
  by_cases c13 : 0 ≤ t110
  case neg => rw [if_neg c13] at H; exact absurd H (by simp)
  rw [if_pos c13] at H
  have c13b0 : decide (0 ≤ t110) = true := decide_eq_true c13
  clear c13
  by_cases c14 : t110 < (t101.length : Int)
  case neg => rw [if_neg c14] at H; exact absurd H (by simp)
  rw [if_pos c14] at H
  have c14b0 : decide (t110 < (t101.length : Int)) = true := decide_eq_true c14
  clear c14
  obtain ⟨y119, hy119⟩ : ∃ y_ : List Int, y_ = (t101.set (t110 : Int).toNat t116) := ⟨_, rfl⟩
  replace H : (some (y119, t117, t118)) = some (r1, r2, r3) := zH hy119
  have Ny119 := Aside0.mk hy119
  clear hy119
  simp only [Option.some.injEq, Prod.mk.injEq] at H
  obtain ⟨rfl, rfl, rfl⟩ := H
  go_enter Try.func59, Try.ntmps59
  go_wp2_with (first | ((with_reducible refine gate_callee (f := 32) rfl ?_); refine goesL_ (some 7) rfl rfl Try.func32 zk rfl #[.slice A1 l1.length c1] rfl zA ?_; (with_reducible refine (spec_l01Own.calls _ _ l1 t101 _ ?side1 ?side2 A3.out).mono ?_); (case side1 => exact Kd.C_keep 0 HR1.out (zK) hf1); (case side2 => exact HC1.out); rintro e w16 ⟨v102, rfl, ho0, hb⟩; refine ⟨_, rfl, ?_⟩; have n_ := y4 (Kd.R_lower ho0 (keep_size (w := w) (g := g) (row := none) (zK))) (IsS60.below (zI) hb) (KeepBut.trans (zK) (KeepBut.of_below hb g none) (.inl rfl)) (below_step (zB) hb); clear HI0 HK HB; obtain ⟨HO103, HI0, HK, HB⟩ := n_; (try clear hb); (try clear hb2); (try clear hk); (try clear hi); (try clear ho0)) | ((with_reducible refine gate_callee (f := 55) rfl ?_); refine goesL_ (some 9) rfl rfl Try.func55 zk rfl #[.pointer (some ⟨g, 0, none⟩), .int .i64 40] rfl zA ?_; (with_reducible refine (spec_l01Next.calls g s0_0 s0_1 s0_2 40 t104 t105 t106 w0 _ ?side1 ?side2 A4.out).mono ?_); (case side1 => exact zI); (case side2 => exact zB); rintro e w17 ⟨rfl, hi, hb, hk⟩; refine ⟨_, rfl, ?_⟩; have n_ := y4 (Kd.R_mono (Kd.R_keep (IsS60.apart (show IsS60 w0 _ g s0_0 s0_1 s0_2 from zI) (zR HO103.out) (by decide)) hk (fun _ h => h.2)) (fun _ h => h.1)) (KeepBut.trans (zK) hk (.inl rfl)) (hb) (hi); clear HO103 HK HB HI0; obtain ⟨HO103, HK, HB, HI0⟩ := n_; (try clear hb); (try clear hb2); (try clear hk); (try clear hi); obtain ⟨Ao18, co18, eo18⟩ := Kd.R_slice HO103.out; subst eo18) | ((with_reducible refine gate_callee (f := 55) rfl ?_); refine goesL_ (some 19) rfl rfl Try.func55 zk rfl #[.pointer (some ⟨g, 0, none⟩), .int .i64 (t101.length : Int)] rfl zA ?_; (with_reducible refine (spec_l01Next.calls g s0_0 t105 t106 (t101.length : Int) t110 t111 t112 w0 _ ?side1 ?side2 A11.out).mono ?_); (case side1 => exact zI); (case side2 => exact zB); rintro e w19 ⟨rfl, hi, hb, hk⟩; refine ⟨_, rfl, ?_⟩; have n_ := y4 (Kd.R_mono (Kd.R_keep (IsS60.apart (show IsS60 w0 _ g s0_0 t105 t106 from zI) (zR HO103.out) (by decide)) hk (fun _ h => h.2)) (fun _ h => h.1)) (KeepBut.trans (zK) hk (.inl rfl)) (hb) (hi); clear HO103 HK HB HI0; obtain ⟨HO103, HK, HB, HI0⟩ := n_; (try clear hb); (try clear hb2); (try clear hk); (try clear hi)) | ((with_reducible refine gate_dst (N := 21) rfl ?_); refine Kd.R_lit (Kd.int .i64) _ 2 ?hg (N := 21) ?hd (xs := ([(-2), 8, 1099511627776, 7] : List Int)) (inner := [.int .i64 (-2), .int .i64 8, .int .i64 1099511627776, .int .i64 7]) (ok := fun _ => True) (okp := fun _ => True) ?hr ?hp (fun _ hk => hk) trivial (Below.refl _ _) (Nat.le_refl _) (by simp) ?_; (case hd => rfl); (case hg => rfl); (case hr => first | (go_simp; done) | (go_simp; rfl)); (case hp => exact (Reps.one (show Kd.M (Kd.int .i64) _ _ _ (-2) [.int .i64 (-2)] from rfl) (Reps.one (show Kd.M (Kd.int .i64) _ _ _ 8 [.int .i64 8] from rfl) (Reps.one (show Kd.M (Kd.int .i64) _ _ _ 1099511627776 [.int .i64 1099511627776] from rfl) (Reps.one (show Kd.M (Kd.int .i64) _ _ _ 7 [.int .i64 7] from rfl) (Reps.none _ _)))))); intro v114 w20 ho21 hb hg_ hnew_; clear hg_ hnew_; (first | rw [← Ny113.out] at ho21 | (simp only [Int.reduceToNat] at ho21; rw [← Ny113.out] at ho21)); have n_ := y5 (Kd.R_elder' (zR HO103.out) (Kd.R_base ho21) hb) (Kd.R_lower (Kd.R_new' ho21 (Kd.R_lt (zR HO103.out))) (keep_size (w := w) (g := g) (row := none) (zK))) (IsS60.below (zI) hb) (KeepBut.trans (zK) (KeepBut.of_below hb g none) (.inl rfl)) (below_step (zB) hb); clear HO103 HI0 HK HB; obtain ⟨HO103, HO115, HI0, HK, HB⟩ := n_; clear hb ho21; obtain ⟨Ao22, co22, eo22⟩ := Kd.R_slice HO115.out; subst eo22) | ((with_reducible refine gate_callee (f := 26) rfl ?_); refine goesL_ (some 22) rfl rfl Try.func26 zk rfl #[.pointer (some ⟨g, 0, none⟩), .slice Ao22 y113.length co22] rfl zA ?_; (with_reducible refine (spec_l01Pick.calls g s0_0 t111 t112 _ _ y113 t116 t117 t118 w0 _ ?side1 ?side2 ?side3 ?side4 ?side5 A12.out).mono ?_); (case side1 => exact zI); (case side2 => exact zB); (case side3 => exact zC (Kd.R_reads' HO115.out).2.2); (case side4 => exact (Kd.R_reads' HO115.out).2.1); (case side5 => exact far_slice (IsS60.own_ne HI0.out HO115.out (by decide))); rintro e w23 ⟨rfl, hi, hb, hk⟩; refine ⟨_, rfl, ?_⟩; have n_ := y5 (Kd.R_mono (Kd.R_keep (IsS60.apart (show IsS60 w0 _ g s0_0 t111 t112 from zI) (zR HO103.out) (by decide)) hk (fun _ h => h.2)) (fun _ h => h.1)) (Kd.R_mono (Kd.R_keep (IsS60.apart (show IsS60 w0 _ g s0_0 t111 t112 from zI) (zR HO115.out) (by decide)) hk (fun _ h => h.2)) (fun _ h => h.1)) (KeepBut.trans (zK) hk (.inl rfl)) (hb) (hi); clear HO103 HO115 HK HB HI0; obtain ⟨HO103, HO115, HK, HB, HI0⟩ := n_; (try clear hb); (try clear hb2); (try clear hk); (try clear hi); have p15 : 0 ≤ (t110 : Int) := zD; have q15 : (t110 : Int) < ((t101.length : Int) : Int) := zD; obtain ⟨go15, co15, eo15, gb15, gl15, cl15, HG15⟩ := Kd.R_form HO103.out (by omega); (first | cases eo15 | (injection eo15 with ea_ en_ ec_; (first | subst ea_ | (injection ea_ with ea_; subst ea_)); subst ec_; clear en_)); have GB15 := Aside0.mk gb15; have GG15 := Aside0.mk HG15; clear gb15 gl15 HG15; obtain ⟨hx15_0, hf15_0⟩ := Kd.R_celln 0 HO103.out (t110 : Int) p15 q15; replace p15 := eq_true p15; replace q15 := eq_true q15; have n_ := Aside0.mk (Kd.R_mono (ok' := (fun k_ => some k_ ≠ (.slice Ao22 y113.length co22 : Value).ownBlock)) HO103.out (fun k_ hk => hk.2)); clear HO103; have HO103 := n_; clear n_; obtain ⟨hy24_, hz24_⟩ := Kd.R_celln 0 HO103.out (t110 : Int) (zD) (zD); have HP24 := Kd.R_putg HO103.out (t110 : Int) t116) | ((with_reducible refine gate_store (t := 2) (p := 23) rfl ?_); refine store_event (t := 2) (p := 23) (v := ?vo_w25) (w1 := (w23.setCell ⟨go15, (t110 : Int).toNat, none⟩ (.int .i64 t116))) ?hg ?ho ?hn ?hr ?_; (case ho => rfl); (case hg => rfl); (case hn => rfl); (case hr => first | (go_simp; done) | (go_simp; rfl)); intro w25 hw; have hg : w23.grownBy w25 (some go15) := (by rw [hw]; exact HP24.2); have hp_ : Kd.R (Kd.int .i64) 2 w25 w.heap.size (fun k_ => some k_ ≠ (.slice Ao22 y113.length co22 : Value).ownBlock) (.slice (some ⟨go15, 0, none⟩) t101.length co18) y119 := (by rw [hw, Ny119.out]; exact HP24.1); clear HP24; have n_ := y5 (IsS60.grown (zI) hg (IsS60.own_ne HI0.out HO103.out (by decide))) (hp_) (Kd.R_after (v := (.slice (some ⟨go15, 0, none⟩) t101.length co18)) (v1 := (.slice (some ⟨go15, 0, none⟩) t101.length co18)) (ok := (fun _ => True)) (zR HO115.out) hg (.inl rfl)) ((by rw [hw]; exact below_set (HB.out) (Nat.le_trans HL.out GB15.out) : Below w0.heap.size w0 w25)) (KeepBut.trans (zK) (KeepBut.of_grown hg g) (Kd.R_base2 HO103.out)); clear HI0 HO103 HO115 HB HK; obtain ⟨HI0, HO103, HO115, HB, HK⟩ := n_; clear hg hw hp_))
  go_ret
  exact ⟨_, zE, by refine zR ?_; exact Kd.R_mono HO103.out (fun _ hk => trivial), zI, zB, zK⟩
 rw [if_neg c10] at H
 have c10b0 : (t104 == 1) = false := beq_eq_false_iff_ne.mpr c10
 have c10b1 : (t104 != 1) = true := bne_iff_ne.mpr c10
 by_cases c26 : t104 = 2
 ·
  rw [if_pos c26] at H
  have c26b0 : (t104 == 2) = true := beq_iff_eq.mpr c26
  have c26b1 : (t104 != 2) = false := bne_eq_false_iff_eq.mpr c26
  clear c26
  have H' := Aside0.mk H
  clear H
  go_enter Try.func59, Try.ntmps59
  go_wp2_with (first | ((with_reducible refine gate_callee (f := 32) rfl ?_); refine goesL_ (some 7) rfl rfl Try.func32 zk rfl #[.slice A1 l1.length c1] rfl zA ?_; (with_reducible refine (spec_l01Own.calls _ _ l1 t101 _ ?side1 ?side2 A3.out).mono ?_); (case side1 => exact Kd.C_keep 0 HR1.out (zK) hf1); (case side2 => exact HC1.out); rintro e w27 ⟨v102, rfl, ho0, hb⟩; refine ⟨_, rfl, ?_⟩; have n_ := y4 (Kd.R_lower ho0 (keep_size (w := w) (g := g) (row := none) (zK))) (IsS60.below (zI) hb) (KeepBut.trans (zK) (KeepBut.of_below hb g none) (.inl rfl)) (below_step (zB) hb); clear HI0 HK HB; obtain ⟨HO103, HI0, HK, HB⟩ := n_; (try clear hb); (try clear hb2); (try clear hk); (try clear hi); (try clear ho0)) | ((with_reducible refine gate_callee (f := 55) rfl ?_); refine goesL_ (some 9) rfl rfl Try.func55 zk rfl #[.pointer (some ⟨g, 0, none⟩), .int .i64 40] rfl zA ?_; (with_reducible refine (spec_l01Next.calls g s0_0 s0_1 s0_2 40 t104 t105 t106 w0 _ ?side1 ?side2 A4.out).mono ?_); (case side1 => exact zI); (case side2 => exact zB); rintro e w28 ⟨rfl, hi, hb, hk⟩; refine ⟨_, rfl, ?_⟩; have n_ := y4 (Kd.R_mono (Kd.R_keep (IsS60.apart (show IsS60 w0 _ g s0_0 s0_1 s0_2 from zI) (zR HO103.out) (by decide)) hk (fun _ h => h.2)) (fun _ h => h.1)) (KeepBut.trans (zK) hk (.inl rfl)) (hb) (hi); clear HO103 HK HB HI0; obtain ⟨HO103, HK, HB, HI0⟩ := n_; (try clear hb); (try clear hb2); (try clear hk); (try clear hi)))
  go_loopg [5] k (fun kq v5 w' => ∃ (x5_1 : List Int), Aside0 (spec_l01BadTurns.l0 kq x5_1 s0_0 t105 t106 = some (r1, r2, r3)) ∧ Aside0 (kq ≤ k) ∧ Aside0 (Kd.R (Kd.int .i64) 2 w' w.heap.size (fun _ => True) v5 x5_1) ∧ Aside0 (IsS60 w0 w' g s0_0 t105 t106) ∧ Aside0 (KeepBut w w' g none) ∧ Aside0 (Below w0.heap.size w0 w'))
  case atStart => exact ⟨(t101), H', ⟨Nat.le_refl _⟩, ⟨zR HO103.out⟩, ⟨zI⟩, ⟨zK⟩, ⟨zB⟩⟩
  clear H'
  try clear c1
  try clear c5
  try clear c5b0
  try clear c5b1
  try clear c10
  try clear c10b0
  try clear c10b1
  try clear c26
  try clear c26b0
  try clear c26b1
  obtain ⟨x5_1, HA, HK1, HO_5, HI0, HK, HB⟩ := hrel
  cases gk with
  | zero => exact absurd HA.out (by simp [spec_l01BadTurns.l0])
  | succ k1 =>
    have H := HA.out
    clear HA
    simp only [spec_l01BadTurns.l0] at H
    by_cases c29 : (x5_1.length : Int) ≤ 120
    · rw [if_pos c29] at H
      have c29b0 : decide ((x5_1.length : Int) ≤ 120) = true := decide_eq_true c29
      have c29b1 : decide (x5_1.length ≤ 120) = true := decide_eq_true (by omega)
      clear c29
      by_cases c30 : x5_1.length < 17592186044416
      · rw [if_pos c30] at H
        have LMc30 := Aside0.mk c30
        clear c30
        obtain ⟨y120, hy120⟩ : ∃ y_ : List Int, y_ = (x5_1 ++ [(-1)]) := ⟨_, rfl⟩
        replace H : (spec_l01BadTurns.l0 k1 y120 s0_0 t105 t106) = some (r1, r2, r3) := zH hy120
        have Ny120 := Aside0.mk hy120
        clear hy120
        have H' := Aside0.mk H
        clear H
        obtain ⟨Ao31, co31, eo31⟩ := Kd.R_slice HO_5.out
        subst eo31
        go_wp2_with (first | ((with_reducible refine gate_builtin (b := .append) (xs := #[.tmp 29, .tmp 30]) rfl ?_); at_builtin; refine Kd.R_append (Kd.int .i64) w.heap.size rfl (.tmp 29) (.tmp 30) 24 2 (.int .i64 0) 8 rfl Try.underlying24 info2 rfl (by decide) (by omega) (.slice Ao31 x5_1.length co31) x5_1 (-1) [.int .i64 (-1)] (fun _ => True) (fun _ => False) rfl rfl ?aP (fun _ hk => hk.elim) ?aF ?aO (Below.refl _ _) ?aS ?aL ?_; (case aP => exact rfl); (case aF => exact (fun _ _ => trivial)); (case aO => exact (zR HO_5.out)); (case aS => exact (keep_size (w := w) (g := g) (row := none) (zK))); (case aL => have := LMc30.out; omega); intro v121 w32 ho hb hg hat; rw [← Ny120.out] at ho; have n_ := y4 (IsS60.grown (zI) hg (IsS60.own_ne HI0.out HO_5.out (by decide))) (below_weaken (zB) HL.out hb) (KeepBut.trans (zK) (KeepBut.of_grown hg g) (Kd.R_base2 HO_5.out)) (ho); clear HI0 HB HK HO_5; obtain ⟨HI0, HB, HK, HO122⟩ := n_; clear ho hb hg hat))
        go_roundg k1
        case measure => have := HK1.out; omega
        case rel => exact ⟨(y120), H', ⟨by have := HK1.out; omega⟩, ⟨zR HO122.out⟩, ⟨zI⟩, ⟨zK⟩, ⟨zB⟩⟩
      · rw [if_neg c30] at H
        exact absurd H (by simp)
    · rw [if_neg c29] at H
      have c29b0 : decide ((x5_1.length : Int) ≤ 120) = false := decide_eq_false c29
      have c29b1 : decide (x5_1.length ≤ 120) = false := decide_eq_false (by omega)
      clear c29
      simp only [Option.some.injEq, Prod.mk.injEq] at H
      obtain ⟨rfl, rfl, rfl⟩ := H
      obtain ⟨Ao33, co33, eo33⟩ := Kd.R_slice HO_5.out
      subst eo33
      go_wp2
      go_ret
      exact ⟨_, zE, zR HO_5.out, zI, zB, zK⟩
 rw [if_neg c26] at H
 have c26b0 : (t104 == 2) = false := beq_eq_false_iff_ne.mpr c26
 have c26b1 : (t104 != 2) = true := bne_iff_ne.mpr c26
 simp only [Option.some.injEq, Prod.mk.injEq] at H
 obtain ⟨rfl, rfl, rfl⟩ := H
 go_enter Try.func59, Try.ntmps59
 go_wp2_with (first | ((with_reducible refine gate_callee (f := 32) rfl ?_); refine goesL_ (some 7) rfl rfl Try.func32 zk rfl #[.slice A1 l1.length c1] rfl zA ?_; (with_reducible refine (spec_l01Own.calls _ _ l1 t101 _ ?side1 ?side2 A3.out).mono ?_); (case side1 => exact Kd.C_keep 0 HR1.out (zK) hf1); (case side2 => exact HC1.out); rintro e w34 ⟨v102, rfl, ho0, hb⟩; refine ⟨_, rfl, ?_⟩; have n_ := y4 (Kd.R_lower ho0 (keep_size (w := w) (g := g) (row := none) (zK))) (IsS60.below (zI) hb) (KeepBut.trans (zK) (KeepBut.of_below hb g none) (.inl rfl)) (below_step (zB) hb); clear HI0 HK HB; obtain ⟨HO103, HI0, HK, HB⟩ := n_; (try clear hb); (try clear hb2); (try clear hk); (try clear hi); (try clear ho0)) | ((with_reducible refine gate_callee (f := 55) rfl ?_); refine goesL_ (some 9) rfl rfl Try.func55 zk rfl #[.pointer (some ⟨g, 0, none⟩), .int .i64 40] rfl zA ?_; (with_reducible refine (spec_l01Next.calls g s0_0 s0_1 s0_2 40 t104 t105 t106 w0 _ ?side1 ?side2 A4.out).mono ?_); (case side1 => exact zI); (case side2 => exact zB); rintro e w35 ⟨rfl, hi, hb, hk⟩; refine ⟨_, rfl, ?_⟩; have n_ := y4 (Kd.R_mono (Kd.R_keep (IsS60.apart (show IsS60 w0 _ g s0_0 s0_1 s0_2 from zI) (zR HO103.out) (by decide)) hk (fun _ h => h.2)) (fun _ h => h.1)) (KeepBut.trans (zK) hk (.inl rfl)) (hb) (hi); clear HO103 HK HB HI0; obtain ⟨HO103, HK, HB, HI0⟩ := n_; (try clear hb); (try clear hb2); (try clear hk); (try clear hi)))
 go_ret
 exact ⟨_, zE, zR HO103.out, zI, zB, zK⟩
end Go.Proofs.Ytfmjckkgnieccaa.P
end
section
namespace Go.Proofs.Ytfmjckkgnieccaa.P
open Go.RowKit Go.Proofs.YtfmjckkgnieccaaW.PrintWords Go.Proofs.YtfmjckkgnieccaaW.PrintLast Go.Proofs.YtfmjckkgnieccaaW.PrintMore
attribute [local go_sem] max2_int min2_int max_two min_two max_three min_three max_four min_four   -- for this text's walks alone
set_option linter.unusedVariables false
set_option linter.unusedSimpArgs false
mutual
def spec_l07Draw.j2 : Nat → List Int → List Int → Int → Int → Option (List Int × Int × Int)
  | 0, _, _, _, _ => none
  | k + 1, x6, x1000, x1001, x1002 => (spec_l01Next.f x1000 x1001 x1002 24).bind fun bt151 => (if bt151.1 = 0 then ((some (([(-1)] : List Int) : List Int)).bind fun y154 => (if x6.length + y154.length < 17592186044416 then ((spec_l01BadTurns.f k x1000 bt151.2.1 bt151.2.2 (x6 ++ y154)).bind fun bt160 => (some (bt160.1, bt160.2.1, bt160.2.2))) else (none))) else (if bt151.1 = 1 then ((some (([7] : List Int) : List Int)).bind fun y165 => (if x6.length + y165.length < 17592186044416 then ((spec_l01BadTurns.f k x1000 bt151.2.1 bt151.2.2 (x6 ++ y165)).bind fun bt171 => (some (bt171.1, bt171.2.1, bt171.2.2))) else (none))) else ((spec_l01BadTurns.f k x1000 bt151.2.1 bt151.2.2 x6).bind fun bt176 => (some (bt176.1, bt176.2.1, bt176.2.2)))))
def spec_l07Draw.l0 : Nat → List Int → List Int → Int → Int → List Int → Int → Int → Option (List Int × Int × Int)
  | 0, _, _, _, _, _, _, _ => none
  | k + 1, x5, x6, x17, x18, x1000, x1001, x1002 => if x18 < x17 then (if 0 ≤ x18 then (if x18 < (x5.length : Int) then (spec_l07Draw.l1 k x5 x6 x18 (rd x5 x18) x17 x18 x1000 x1001 x1002) else (none)) else (none)) else (spec_l07Draw.j2 k x6 x1000 x1001 x1002)
def spec_l07Draw.l1 : Nat → List Int → List Int → Int → Int → Int → Int → List Int → Int → Int → Option (List Int × Int × Int)
  | 0, _, _, _, _, _, _, _, _, _ => none
  | k + 1, x5, x6, x7, x8, x17, x18, x1000, x1001, x1002 => if x8 > 0 then ((spec_l01Next.f x1000 x1001 x1002 (wrap64 ((x6.length : Int) + 1))).bind fun bt128 => (if 0 ≤ bt128.1 then (if bt128.1 ≤ (x6.length : Int) then ((spec_l01Own.f (x6.take (bt128.1 : Int).toNat)).bind fun t135 => ((some (([x7] : List Int) : List Int)).bind fun y138 => (if t135.length + y138.length < 17592186044416 then ((some (t135 ++ y138 : List Int)).bind fun y141 => ((some (x6.drop (bt128.1 : Int).toNat : List Int)).bind fun y144 => (if y141.length + y144.length < 17592186044416 then (spec_l07Draw.l1 k x5 (y141 ++ y144) x7 (wrap64 (x8 - 1)) x17 x18 x1000 bt128.2.1 bt128.2.2) else (none)))) else (none)))) else (none)) else (none))) else (spec_l07Draw.l0 k x5 x6 x17 (wrap64 (x18 + 1)) x1000 x1001 x1002)
end
def spec_l07Draw.f (k : Nat) (s0_0 : List Int) (s0_1 : Int) (s0_2 : Int) (a1 : Int) : Option (List Int × Int × Int) := (spec_l07DrawShares.f k s0_0 s0_1 s0_2 a1).bind fun bt101 => ((spec_l01Next.f s0_0 bt101.2.1 bt101.2.2 4).bind fun bt109 => (if bt109.1 = 0 then ((spec_GreedyTurns.f k bt101.1).bind fun bt112 => (spec_l07Draw.j2 k bt112.1 s0_0 bt109.2.1 bt109.2.2)) else (if bt109.1 = 1 then ((spec_LeastDifference.f k bt101.1).bind fun bt116 => (spec_l07Draw.j2 k bt116.1 s0_0 bt109.2.1 bt109.2.2)) else (if bt109.1 = 2 then ((spec_l01Next.f s0_0 bt109.2.1 bt109.2.2 4).bind fun bt121 => ((spec_l07Doubled.f k (wrap64 (1 + bt121.1))).bind fun t124 => (spec_l07Draw.j2 k t124 s0_0 bt121.2.1 bt121.2.2))) else (spec_l07Draw.l0 k bt101.1 (([] : List Int)) (bt101.1.length : Int) 0 s0_0 bt109.2.1 bt109.2.2)))))
theorem spec_l07Draw.mono_l : ∀ k, (∀ y0 y1 y2 y3, LeO (spec_l07Draw.j2 k y0 y1 y2 y3) (spec_l07Draw.j2 (k + 1) y0 y1 y2 y3)) ∧ (∀ y0 y1 y2 y3 y4 y5 y6, LeO (spec_l07Draw.l0 k y0 y1 y2 y3 y4 y5 y6) (spec_l07Draw.l0 (k + 1) y0 y1 y2 y3 y4 y5 y6)) ∧ (∀ y0 y1 y2 y3 y4 y5 y6 y7 y8, LeO (spec_l07Draw.l1 k y0 y1 y2 y3 y4 y5 y6 y7 y8) (spec_l07Draw.l1 (k + 1) y0 y1 y2 y3 y4 y5 y6 y7 y8))
  | 0 => ⟨fun _ _ _ _ r h => by simp [spec_l07Draw.j2] at h, fun _ _ _ _ _ _ _ r h => by simp [spec_l07Draw.l0] at h, fun _ _ _ _ _ _ _ _ _ r h => by simp [spec_l07Draw.l1] at h⟩
  | k + 1 => by
    obtain ⟨ih0, ih1, ih2⟩ := spec_l07Draw.mono_l k
    refine ⟨?_, ?_, ?_⟩ <;> intros <;> (first | unfold spec_l07Draw.j2 | unfold spec_l07Draw.l0 | unfold spec_l07Draw.l1) <;> repeat' first | (with_reducible exact ih0 _ _ _ _) | (with_reducible exact ih1 _ _ _ _ _ _ _) | (with_reducible exact ih2 _ _ _ _ _ _ _ _ _) | (with_reducible exact spec_GreedyTurns.mono _ _) | (with_reducible exact spec_LeastDifference.mono _ _) | (with_reducible exact spec_l01BadTurns.mono _ _ _ _ _) | (with_reducible exact spec_l07Doubled.mono _ _) | (with_reducible exact spec_l07DrawShares.mono _ _ _ _ _) | (with_reducible exact LeO.refl _) | (with_reducible exact LeO.none _) | (with_reducible refine LeO.ite ?_ ?_) | (with_reducible refine LeO.bind ?_ (fun _ => ?_)) | exact ih0 _ _ _ _ | exact ih1 _ _ _ _ _ _ _ | exact ih2 _ _ _ _ _ _ _ _ _ | exact spec_GreedyTurns.mono _ _ | exact spec_LeastDifference.mono _ _ | exact spec_l01BadTurns.mono _ _ _ _ _ | exact spec_l07Doubled.mono _ _ | exact spec_l07DrawShares.mono _ _ _ _ _ | exact LeO.none _ | refine LeO.ite ?_ ?_ | refine LeO.bind ?_ (fun _ => ?_)
theorem spec_l07Draw.mono : ∀ a0 a1 a2 a3 k, LeO (spec_l07Draw.f k a0 a1 a2 a3) (spec_l07Draw.f (k + 1) a0 a1 a2 a3) := by
  intro a0 a1 a2 a3 k
  obtain ⟨ih0, ih1, ih2⟩ := spec_l07Draw.mono_l k
  unfold spec_l07Draw.f
  repeat' first | (with_reducible exact ih0 _ _ _ _) | (with_reducible exact ih1 _ _ _ _ _ _ _) | (with_reducible exact ih2 _ _ _ _ _ _ _ _ _) | (with_reducible exact spec_GreedyTurns.mono _ _) | (with_reducible exact spec_LeastDifference.mono _ _) | (with_reducible exact spec_l01BadTurns.mono _ _ _ _ _) | (with_reducible exact spec_l07Doubled.mono _ _) | (with_reducible exact spec_l07DrawShares.mono _ _ _ _ _) | (with_reducible exact LeO.refl _) | (with_reducible exact LeO.none _) | (with_reducible refine LeO.ite ?_ ?_) | (with_reducible refine LeO.bind ?_ (fun _ => ?_)) | exact ih0 _ _ _ _ | exact ih1 _ _ _ _ _ _ _ | exact ih2 _ _ _ _ _ _ _ _ _ | exact spec_GreedyTurns.mono _ _ | exact spec_LeastDifference.mono _ _ | exact spec_l01BadTurns.mono _ _ _ _ _ | exact spec_l07Doubled.mono _ _ | exact spec_l07DrawShares.mono _ _ _ _ _ | exact LeO.none _ | refine LeO.ite ?_ ?_ | refine LeO.bind ?_ (fun _ => ?_)
def spec_l07Draw.T10 : Bool × List (List Nat × List Nat) := (true, [([], []), ([], []), ([0, 1], [0, 1]), ([2], [2]), ([], []), ([4], [4]), ([3, 5, 3], [3, 5]), ([], []), ([], []), ([7, 8], [7, 8]), ([6, 9, 6], [6, 9]), ([10, 10, 0, 1, 2, 3, 4, 5, 6, 7, 8, 9, 10], [0, 7, 10])])
def spec_l07Draw.B10 : List Nat := [0, 0, 3, 7, 0, 16, 63, 0, 0, 384, 1023, 2047]
theorem spec_l07Draw.tab10 : rtab .any (opsOf Try.f25 10) = spec_l07Draw.T10 := by kernel_rfl
theorem spec_l07Draw.bits10 : waitsOk spec_l07Draw.T10.2 spec_l07Draw.B10 = true := by kernel_rfl
end Go.Proofs.Ytfmjckkgnieccaa.P
end
