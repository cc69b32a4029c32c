/- Exchanges go back, best exchanges give less squares, smooth turns have no more squares and no better exchange, and spreads are told by waits. -/
import Derived.Test.YtfmjckkgnieccaaCFnExchanges5
section
namespace Go.Proofs.Ytfmjckkgnieccaa.P
open Go.RowKit Go.Proofs.YtfmjckkgnieccaaW.PrintWords Go.Proofs.YtfmjckkgnieccaaW.PrintLast Go.Proofs.YtfmjckkgnieccaaW.PrintMore
attribute [local go_sem] max2_int min2_int max_two min_two max_three min_three max_four min_four   -- for this text's walks alone
set_option linter.unusedVariables false
set_option linter.unusedSimpArgs false
set_option maxHeartbeats 8000000 in
set_option maxRecDepth 100000 in
theorem impl_waits.calls (k : Nat) (A0 : Option Addr) (c0 : Nat) (l0 : List Int) (a1 : Int) (r : List Int) (w : World) (hr0 : Kd.C (Kd.int .i64) w A0 l0.length l0) (hc0 : l0.length ≤ c0) (h : impl_waits.f k l0 a1 = some r) :
    Calls Try.prog 45 #[.slice A0 l0.length c0, .int .i64 a1] w fun e w' => ∃ v0_ : Value, e = .returned (v0_) ∧ Kd.R (Kd.int .i64) 2 w' w.heap.size (fun _ => True) v0_ r ∧ Below w.heap.size w w' := by
 have HR0 := Aside0.mk hr0
 have HC0 := Aside0.mk hc0
 clear hr0 hc0
 have HB := Aside0.mk (Below.refl w.heap.size w)
 have H : (impl_waits.l0 k l0 a1 ([] : List Int) l0 (l0.length : Int) 0) = some r := h
 clear h
 have H' := Aside0.mk H
 clear H
 go_enter Try.func45, Try.ntmps45
 go_wp2
 go_loopg [5, 13] k (fun kq v5 v13 w' => ∃ (x5_1 : List Int) (x13_1 : Int), v13 = .int .i64 x13_1 ∧ Aside0 (impl_waits.l0 kq l0 a1 x5_1 l0 (l0.length : Int) x13_1 = some r) ∧ Aside0 (kq ≤ k) ∧ Aside0 (Kd.R (Kd.int .i64) 2 w' w.heap.size (fun _ => True) v5 x5_1) ∧ Aside0 (Below w.heap.size w w'))
 case atStart => exact ⟨(([] : List Int)), (0), zF, H', ⟨Nat.le_refl _⟩, ⟨zN⟩, ⟨zB⟩⟩
 clear H'
 obtain ⟨x5_1, x13_1, rfl, HA, HK1, HO_5, HB⟩ := hrel
 cases gk with
 | zero => exact absurd HA.out (by simp [impl_waits.l0])
 | succ k1 =>
   have H := HA.out
   clear HA
   simp only [impl_waits.l0] at H
   by_cases c3 : x13_1 < (l0.length : Int)
   · rw [if_pos c3] at H
     have c3b0 : decide (x13_1 < (l0.length : Int)) = true := decide_eq_true c3
     clear c3
     by_cases c4 : 0 ≤ x13_1
     · rw [if_pos c4] at H
       have c4b0 : decide (0 ≤ x13_1) = true := decide_eq_true c4
       clear c4
       by_cases c5 : x13_1 < (l0.length : Int)
       · rw [if_pos c5] at H
         have c5b0 : decide (x13_1 < (l0.length : Int)) = true := decide_eq_true c5
         clear c5
         by_cases c6 : (rd l0 x13_1) = a1
         · rw [if_pos c6] at H
           have c6b0 : ((rd l0 x13_1) == a1) = true := beq_iff_eq.mpr c6
           have c6b1 : ((rd l0 x13_1) != a1) = false := bne_eq_false_iff_eq.mpr c6
           clear c6
           by_cases c7 : x5_1.length < 17592186044416
           · rw [if_pos c7] at H
             have LMc7 := Aside0.mk c7
             clear c7
             obtain ⟨y102, hy102⟩ : ∃ y_ : List Int, y_ = (x5_1 ++ [x13_1]) := ⟨_, rfl⟩
             replace H : (impl_waits.l0 k1 l0 a1 y102 l0 (l0.length : Int) (wrap64 (x13_1 + 1))) = some r := zH hy102
             have Ny102 := Aside0.mk hy102
             clear hy102
             have H' := Aside0.mk H
             clear H
             have p101 : 0 ≤ (x13_1 : Int) := zD
             have q101 : x13_1 < (l0.length : Int) := zD
             obtain ⟨ad101, e101, hx101_0⟩ := Kd.at_int HR0.out x13_1 p101 q101
             cases e101
             replace hx101_0 := (HB.out.cell (World.block_lt_of_cell? w _ hx101_0)).trans hx101_0
             replace p101 := eq_true p101
             replace q101 := eq_true q101
             go_wp2_with (first | ((with_reducible refine gate_builtin (b := .append) (xs := #[.tmp 21, .tmp 23]) rfl ?_); at_builtin; refine Kd.R_append (Kd.int .i64) (w0 := w) w.heap.size rfl (.tmp 21) (.tmp 23) 24 2 (.int .i64 0) 8 rfl Try.underlying24 info2 rfl (by decide) (by omega) u5 x5_1 x13_1 [.int .i64 x13_1] (fun _ => True) (fun _ => False) rfl rfl ?aP (fun _ hk => hk.elim) ?aF ?aO ?aB ?aS ?aL ?_; (case aP => exact rfl); (case aB => exact (zB)); (case aF => exact (fun _ _ => trivial)); (case aO => exact (zR HO_5.out)); (case aS => exact (below_size (zB))); (case aL => have := LMc7.out; omega); intro v103 w8 ho hb hg hat; rw [← Ny102.out] at ho; have n_ := y2 (hb) (ho); clear HB HO_5; obtain ⟨HB, HO104⟩ := n_; clear ho hb hg hat))
             go_roundg k1
             case measure => have := HK1.out; omega
             case rel => exact ⟨(y102), (wrap64 (x13_1 + 1)), zF, H', ⟨by have := HK1.out; omega⟩, ⟨zR HO104.out⟩, ⟨zB⟩⟩
           · rw [if_neg c7] at H
             exact absurd H (by simp)
         · rw [if_neg c6] at H
           have c6b0 : ((rd l0 x13_1) == a1) = false := beq_eq_false_iff_ne.mpr c6
           have c6b1 : ((rd l0 x13_1) != a1) = true := bne_iff_ne.mpr c6
           have H' := Aside0.mk H
           clear H
           have p101 : 0 ≤ (x13_1 : Int) := zD
           have q101 : x13_1 < (l0.length : Int) := zD
           obtain ⟨ad101, e101, hx101_0⟩ := Kd.at_int HR0.out x13_1 p101 q101
           cases e101
           replace hx101_0 := (HB.out.cell (World.block_lt_of_cell? w _ hx101_0)).trans hx101_0
           replace p101 := eq_true p101
           replace q101 := eq_true q101
           go_wp2
           go_roundg k1
           case measure => have := HK1.out; omega
           case rel => exact ⟨(x5_1), (wrap64 (x13_1 + 1)), zF, H', ⟨by have := HK1.out; omega⟩, ⟨zR HO_5.out⟩, ⟨zB⟩⟩
       · rw [if_neg c5] at H
         exact absurd H (by simp)
     · rw [if_neg c4] at H
       exact absurd H (by simp)
   · rw [if_neg c3] at H
     have c3b0 : decide (x13_1 < (l0.length : Int)) = false := decide_eq_false c3
     clear c3
     have H' := Aside0.mk H
     clear H
     obtain ⟨Ao9, co9, eo9⟩ := Kd.R_slice HO_5.out
     subst eo9
     go_wp2
     go_loopg [6, 28] k1 (fun kq v6 v28 w' => ∃ (x6_2 : List Int) (x28_2 : Int), v28 = .int .i64 x28_2 ∧ Aside0 (impl_waits.l1 kq l0 x5_1 x6_2 x5_1 (x5_1.length : Int) x28_2 = some r) ∧ Aside0 (kq ≤ k1) ∧ Aside0 (Kd.R (Kd.int .i64) 2 w' w.heap.size (fun k_ => some k_ ≠ (v6 : Value).ownBlock) (.slice Ao9 x5_1.length co9) x5_1) ∧ Aside0 (Kd.R (Kd.int .i64) 2 w' w.heap.size (fun k_ => some k_ ≠ ((.slice Ao9 x5_1.length co9) : Value).ownBlock ∧ some k_ ≠ ((.slice Ao9 x5_1.length co9) : Value).ownBlock) v6 x6_2) ∧ Aside0 (Kd.R (Kd.int .i64) 2 w' w.heap.size (fun k_ => some k_ ≠ (v6 : Value).ownBlock) (.slice Ao9 x5_1.length co9) x5_1) ∧ Aside0 (Below w.heap.size w w'))
     case atStart => exact ⟨(([] : List Int)), (0), zF, H', ⟨Nat.le_refl _⟩, ⟨by refine zR ?_; exact Kd.R_mono HO_5.out (fun _ hk => (by simp [Value.ownBlock]))⟩, ⟨zN⟩, ⟨by refine zR ?_; exact Kd.R_mono HO_5.out (fun _ hk => (by simp [Value.ownBlock]))⟩, ⟨zB⟩⟩
     case round =>
       clear H'
       try clear c3
       try clear c3b0
       obtain ⟨x6_2, x28_2, rfl, HA, HK2, HO_5, HO_6, HO_26, HB⟩ := hrel
       cases gk with
       | zero => exact absurd HA.out (by simp [impl_waits.l1])
       | succ k2 =>
         have H := HA.out
         clear HA
         simp only [impl_waits.l1] at H
         by_cases c10 : x28_2 < (x5_1.length : Int)
         · rw [if_pos c10] at H
           have c10b0 : decide (x28_2 < (x5_1.length : Int)) = true := decide_eq_true c10
           clear c10
           by_cases c11 : 0 ≤ x28_2
           · rw [if_pos c11] at H
             have c11b0 : decide (0 ≤ x28_2) = true := decide_eq_true c11
             clear c11
             by_cases c12 : x28_2 < (x5_1.length : Int)
             · rw [if_pos c12] at H
               have c12b0 : decide (x28_2 < (x5_1.length : Int)) = true := decide_eq_true c12
               clear c12
               by_cases c13 : (wrap64 (x28_2 + 1)) < (x5_1.length : Int)
               · rw [if_pos c13] at H
                 have c13b0 : decide ((wrap64 (x28_2 + 1)) < (x5_1.length : Int)) = true := decide_eq_true c13
                 clear c13
                 obtain ⟨ji14, hji14⟩ : ∃ j_ : Int, (wrap64 (x28_2 + 1)) = j_ := ⟨_, rfl⟩
                 replace H : (if 0 ≤ (ji14) then (if x6_2.length < 17592186044416 then (impl_waits.l1 k2 l0 x5_1 (x6_2 ++ [wrap64 ((rd x5_1 (ji14)) - (rd x5_1 x28_2))]) x5_1 (x5_1.length : Int) ji14) else (none)) else (none)) = some r := by first | (rw [hji14] at H; exact H) | (simp only [hji14] at H ⊢; exact H)
                 (try rw [hji14] at c13b0)
                 have hji14w : (IntKind.i64.wrap (x28_2 + 1)) = ji14 := (i64_w _).trans hji14
                 by_cases c15 : 0 ≤ (ji14)
                 · rw [if_pos c15] at H
                   have c15b0 : decide (0 ≤ (ji14)) = true := decide_eq_true c15
                   clear c15
                   by_cases c16 : x6_2.length < 17592186044416
                   · rw [if_pos c16] at H
                     have LMc16 := Aside0.mk c16
                     clear c16
                     obtain ⟨y107, hy107⟩ : ∃ y_ : List Int, y_ = (x6_2 ++ [wrap64 ((rd x5_1 (ji14)) - (rd x5_1 x28_2))]) := ⟨_, rfl⟩
                     replace H : (impl_waits.l1 k2 l0 x5_1 y107 x5_1 (x5_1.length : Int) ji14) = some r := zH hy107
                     have Ny107 := Aside0.mk hy107
                     clear hy107
                     have H' := Aside0.mk H
                     clear H
                     have p105 : 0 ≤ (x28_2 : Int) := zD
                     have q105 : x28_2 < (x5_1.length : Int) := zD
                     obtain ⟨ad105, e105, hx105_0⟩ := Kd.at_int (Kd.R_reads' HO_26.out).2.2 x28_2 p105 q105
                     cases e105
                     replace p105 := eq_true p105
                     replace q105 := eq_true q105
                     have p106 : 0 ≤ ((ji14) : Int) := zD
                     have q106 : (ji14) < (x5_1.length : Int) := zD
                     obtain ⟨ad106, e106, hx106_0⟩ := Kd.at_int (Kd.R_reads' HO_5.out).2.2 (ji14) p106 q106
                     obtain rfl : ad105 = ad106 := (by injection e106)
                     replace p106 := eq_true p106
                     replace q106 := eq_true q106
                     go_wp2_with (first | ((with_reducible refine gate_builtin (b := .append) (xs := #[.tmp 38, .tmp 46]) rfl ?_); at_builtin; refine Kd.R_append (Kd.int .i64) (w0 := w) w.heap.size rfl (.tmp 38) (.tmp 46) 24 2 (.int .i64 0) 8 rfl Try.underlying24 info2 rfl (by decide) (by omega) u6 x6_2 (wrap64 ((rd x5_1 (ji14)) - (rd x5_1 x28_2))) [.int .i64 (wrap64 ((rd x5_1 (ji14)) - (rd x5_1 x28_2)))] (fun k_ => some k_ ≠ (.slice (some ad105) x5_1.length co9 : Value).ownBlock ∧ some k_ ≠ (.slice (some ad105) x5_1.length co9 : Value).ownBlock) (fun _ => False) rfl rfl ?aP (fun _ hk => hk.elim) ?aF ?aO ?aB ?aS ?aL ?_; (case aP => exact rfl); (case aB => exact (zB)); (case aF => exact (fun k_ hk => ⟨Kd.fresh' (Kd.R_lt (zR HO_5.out)) k_ hk, Kd.fresh' (Kd.R_lt (zR HO_26.out)) k_ hk⟩)); (case aO => exact (zR HO_6.out)); (case aS => exact (below_size (zB))); (case aL => have := LMc16.out; omega); intro v108 w17 ho hb hg hat; rw [← Ny107.out] at ho; have n_ := y4 (Kd.R_after (ok := (fun _ => True)) (by refine zR ?_; exact Kd.R_mono HO_5.out (fun _ hk => ⟨trivial, hk⟩)) hg hat) (Kd.R_after (ok := (fun _ => True)) (by refine zR ?_; exact Kd.R_mono HO_26.out (fun _ hk => ⟨trivial, hk⟩)) hg hat) (hb) (ho); clear HO_5 HO_26 HB HO_6; obtain ⟨HO_5, HO_26, HB, HO109⟩ := n_; clear ho hb hg hat))
                     go_roundg k2
                     case measure => have := HK1.out; have := HK2.out; omega
                     case rel => exact ⟨(y107), (ji14), (by first | rfl | (simp; done) | (simp only [← hji14] <;> (first | rfl | simp)) | (simp [*]; done)), H', ⟨by have := HK1.out; have := HK2.out; omega⟩, ⟨by refine zR ?_; exact Kd.R_mono HO_5.out (fun _ hk => hk.2)⟩, ⟨zR HO109.out⟩, ⟨by refine zR ?_; exact Kd.R_mono HO_26.out (fun _ hk => hk.2)⟩, ⟨zB⟩⟩
                   · rw [if_neg c16] at H
                     exact absurd H (by simp)
                 · rw [if_neg c15] at H
                   exact absurd H (by simp)
               · rw [if_neg c13] at H
                 have c13b0 : decide ((wrap64 (x28_2 + 1)) < (x5_1.length : Int)) = false := decide_eq_false c13
                 clear c13
                 by_cases c18 : 0 < (x5_1.length : Int)
                 · rw [if_pos c18] at H
                   have c18b0 : decide (0 < (x5_1.length : Int)) = true := decide_eq_true c18
                   have c18b1 : decide (0 < x5_1.length) = true := decide_eq_true (by omega)
                   clear c18
                   replace H := Option.bind_eq_some_iff.mp H
                   obtain ⟨t111, A190, H⟩ := H
                   replace H : (if x6_2.length < 17592186044416 then (impl_waits.l1 k2 l0 x5_1 (x6_2 ++ [wrap64 ((wrap64 ((rd x5_1 0) + t111)) - (rd x5_1 x28_2))]) x5_1 (x5_1.length : Int) (wrap64 (x28_2 + 1))) else (none)) = some r := H
                   have A19 := Aside0.mk A190
                   clear A190
                   by_cases c20 : x6_2.length < 17592186044416
                   · rw [if_pos c20] at H
                     have LMc20 := Aside0.mk c20
                     clear c20
                     obtain ⟨y112, hy112⟩ : ∃ y_ : List Int, y_ = (x6_2 ++ [wrap64 ((wrap64 ((rd x5_1 0) + t111)) - (rd x5_1 x28_2))]) := ⟨_, rfl⟩
                     replace H : (impl_waits.l1 k2 l0 x5_1 y112 x5_1 (x5_1.length : Int) (wrap64 (x28_2 + 1))) = some r := zH hy112
                     have Ny112 := Aside0.mk hy112
                     clear hy112
                     have H' := Aside0.mk H
                     clear H
                     have p105 : 0 ≤ (x28_2 : Int) := zD
                     have q105 : x28_2 < (x5_1.length : Int) := zD
                     obtain ⟨ad105, e105, hx105_0⟩ := Kd.at_int (Kd.R_reads' HO_26.out).2.2 x28_2 p105 q105
                     cases e105
                     replace p105 := eq_true p105
                     replace q105 := eq_true q105
                     try go_wp2
                     have n_ := y4 (Kd.R_drew HO_5.out) (Kd.R_drew HO_6.out) (Kd.R_drew HO_26.out) (below_drew1 HB.out)
                     clear HO_5 HO_6 HO_26 HB
                     obtain ⟨HO_5, HO_6, HO_26, HB⟩ := n_
                     have p110 : 0 ≤ (0 : Int) := (by omega)
                     have q110 : 0 < (x5_1.length : Int) := zD
                     obtain ⟨ad110, e110, hx110_0⟩ := Kd.at_int (Kd.R_reads' HO_5.out).2.2 0 p110 q110
                     obtain rfl : ad105 = ad110 := (by injection e110)
                     have qi110 : (0 < x5_1.length) = True := eq_true (by omega)
                     (try rw [show ((0 : Int)).toNat = 0 from rfl] at hx110_0)
                     (try rw [Addr.add_zero'] at hx110_0)
                     replace p110 := eq_true p110
                     replace q110 := eq_true q110
                     refine start_ (n := 12) (S := fun w' => w'.cell? ad105 = some (.int .i64 (rd x5_1 0))) (ds := [9, 10]) #[false,false,false,false,false,false,false,false,false,false,false,false] zk rfl rfl (hx110_0) (fun hHeld => ?_); refine with_tabW impl_waits.tab13 impl_waits.bits13 (fun HT_ HW_ => ?_)
                     generalize wr.drew = w21 at HO_5 HO_6 HO_26 HB hx110_0 hHeld ⊢
                     refine pure_ (i := 0) (N := some 48) (v := ?_) (a' := ?_) #[true,false,false,false,false,false,false,false,false,false,false,false] rfl rfl (any_of HT_.out zk) (fun _ _ _ h => h) (Or.inl ⟨by rfl, ?_⟩) ?_ ?_
                     rotate_left; exact zp; rotate_left; exact zq
                     refine pure_ (i := 1) (N := some 49) (v := ?_) (a' := ?_) #[true,true,false,false,false,false,false,false,false,false,false,false] rfl rfl (any_of HT_.out zk) (fun _ _ _ h => h) (Or.inl ⟨by rfl, ?_⟩) ?_ ?_
                     rotate_left; exact zp; rotate_left; exact zq
                     refine pure_ (i := 2) (N := some 50) (v := ?_) (a' := ?_) #[true,true,true,false,false,false,false,false,false,false,false,false] rfl rfl (any_of HT_.out zk) (fun _ _ _ h => h) (Or.inl ⟨by rfl, ?_⟩) ?_ ?_
                     rotate_left; exact zp; rotate_left; exact zq
                     refine pure_ (i := 4) (N := some 52) (v := ?_) (a' := ?_) #[true,true,true,false,true,false,false,false,false,false,false,false] rfl rfl (any_of HT_.out zk) (fun _ _ _ h => h) (Or.inl ⟨by rfl, ?_⟩) ?_ ?_
                     rotate_left; exact zp; rotate_left; exact zq
                     refine pure_ (i := 7) (N := some 55) (v := ?_) (a' := ?_) #[true,true,true,false,true,false,false,true,false,false,false,false] rfl rfl (any_of HT_.out zk) (fun _ _ _ h => h) (Or.inl ⟨by rfl, ?_⟩) ?_ ?_
                     rotate_left; exact zp; rotate_left; exact zq
                     refine take_ (i := 3) (N := some 51) (v := ?_) (a' := ?_) #[true,true,true,true,true,false,false,true,false,false,false,false] rfl rfl (take_ofW HT_.out HW_.out zk) (fun _ _ _ h => h) (Or.inl ⟨by rfl, ?_⟩) hHeld ?_ ?_
                     rotate_left
                     · intro w' s0
                       go_simp
                       with_reducible rfl
                     rotate_left
                     · simp only [Act.put, List.setIfInBounds_toArray, List.set_cons_zero, List.set_cons_succ, i64_w, i32_w]
                       rfl
                     refine one_ (i := 5) (N := some 53) #[true,true,true,true,true,true,false,true,false,false,false,false] rfl rfl (one_of HT_.out zk) (by decide) (fun K hK => ?_)
                     refine goes_ Try.func39 zk rfl #[.slice A0 l0.length c0] (by rfl) rfl rfl zA ?_
                     with_reducible refine (impl_length_int64.calls _ _ l0 t111 _ ?side1 ?side2 A19.out).mono ?_
                     (case side1 => exact zC (Kd.C_below HR0.out HB.out))
                     (case side2 => exact HC0.out)
                     rintro e w' ⟨rfl, ⟨nd, rfl⟩⟩
                     refine ⟨_, rfl, ?_⟩
                     refine hK.out _ _ (hHeld) (fun hHeld => ?_)
                     clear hK K
                     refine norm_ (a' := ?_) ?_ ?_
                     rotate_left
                     · show Act.put _ (some 53) _ = _
                       simp only [Act.put, List.setIfInBounds_toArray, List.set_cons_zero, List.set_cons_succ, i64_w, i32_w]
                       rfl
                     refine pure_ (i := 6) (N := some 54) (v := ?_) (a' := ?_) #[true,true,true,true,true,true,true,true,false,false,false,false] rfl rfl (any_of HT_.out zk) (fun _ _ _ h => h) (Or.inl ⟨by rfl, ?_⟩) ?_ ?_
                     rotate_left; exact zp; rotate_left; exact zq
                     refine pure_ (i := 8) (N := some 56) (v := ?_) (a' := ?_) #[true,true,true,true,true,true,true,true,true,false,false,false] rfl rfl (any_of HT_.out zk) (fun _ _ _ h => h) (Or.inl ⟨by rfl, ?_⟩) ?_ ?_
                     rotate_left; exact zp; rotate_left; exact zq
                     refine last_ (i := 9) (N := some 57) #[true,true,true,true,true,true,true,true,true,true,false,false] rfl rfl (one_of HT_.out zk) (by decide) (fun K hK => ?_)
                     refine value_ (w1 := ?_) (v := ?_) (by rfl) rfl ?_ ?_
                     rotate_left 2
                     · go_simp
                       constructor
                       · rfl
                       · rfl
                     refine hK.out _ _ ?_
                     clear hK K
                     refine norm_ (a' := ?_) ?_ ?_
                     rotate_left
                     · show Act.put _ (some 57) _ = _
                       simp only [Act.put, List.setIfInBounds_toArray, List.set_cons_zero, List.set_cons_succ, i64_w, i32_w]
                       rfl
                     refine last_ (i := 10) (N := some 58) #[true,true,true,true,true,true,true,true,true,true,true,false] rfl rfl (one_of HT_.out zk) (by decide) (fun K hK => ?_)
                     refine Kd.R_append_step (Kd.int .i64) (w0 := w) w.heap.size (by rfl) (.tmp 48) (.tmp 57) 24 2 (.int .i64 0) 8 rfl Try.underlying24 info2 rfl (by decide) (by omega) u6 x6_2 (wrap64 ((wrap64 ((rd x5_1 0) + t111)) - (rd x5_1 x28_2))) [.int .i64 (wrap64 ((wrap64 ((rd x5_1 0) + t111)) - (rd x5_1 x28_2)))] (fun k_ => some k_ ≠ (.slice (some ad105) x5_1.length co9 : Value).ownBlock ∧ some k_ ≠ (.slice (some ad105) x5_1.length co9 : Value).ownBlock) (fun _ => False) rfl rfl ?aP (fun _ hk => hk.elim) ?aF ?aO ?aB ?aS ?aL ?_
                     (case aP => exact rfl)
                     (case aB => exact (zB))
                     (case aF => exact (fun k_ hk => ⟨Kd.fresh' (Kd.R_lt (zR HO_5.out)) k_ hk, Kd.fresh' (Kd.R_lt (zR HO_26.out)) k_ hk⟩))
                     (case aO => exact (zR HO_6.out))
                     (case aS => exact (below_size (zB)))
                     (case aL => have := LMc20.out; omega)
                     intro v113 w22 ho hb hg hat
                     rw [← Ny112.out] at ho
                     have n_ := y4 (Kd.R_after (ok := (fun _ => True)) (by refine zR ?_; exact Kd.R_mono HO_5.out (fun _ hk => ⟨trivial, hk⟩)) hg hat) (Kd.R_after (ok := (fun _ => True)) (by refine zR ?_; exact Kd.R_mono HO_26.out (fun _ hk => ⟨trivial, hk⟩)) hg hat) (hb) (ho)
                     clear HO_5 HO_26 HB HO_6
                     obtain ⟨HO_5, HO_26, HB, HO114⟩ := n_
                     clear ho hb hg hat
                     refine hK.out _ _ ?_
                     clear hK K
                     refine norm_ (a' := ?_) ?_ ?_
                     rotate_left
                     · show Act.put _ (some 58) _ = _
                       simp only [Act.put, List.setIfInBounds_toArray, List.set_cons_zero, List.set_cons_succ, i64_w, i32_w]
                       rfl
                     refine pure_ (i := 11) (N := some 6) (v := ?_) (a' := ?_) #[true,true,true,true,true,true,true,true,true,true,true,true] rfl rfl (any_of HT_.out zk) (fun _ _ _ h => h) (Or.inl ⟨by rfl, ?_⟩) ?_ ?_
                     rotate_left; exact zp; rotate_left; exact zq
                     refine done_ (done_of HT_.out zk) ?_
                     try go_wp2
                     go_roundg k2
                     case measure => have := HK1.out; have := HK2.out; omega
                     case rel => exact ⟨(y112), (wrap64 (x28_2 + 1)), zF, H', ⟨by have := HK1.out; have := HK2.out; omega⟩, ⟨by refine zR ?_; exact Kd.R_mono HO_5.out (fun _ hk => hk.2)⟩, ⟨zR HO114.out⟩, ⟨by refine zR ?_; exact Kd.R_mono HO_26.out (fun _ hk => hk.2)⟩, ⟨zB⟩⟩
                   · rw [if_neg c20] at H
                     exact absurd H (by simp)
                 · rw [if_neg c18] at H
                   exact absurd H (by simp)
             · rw [if_neg c12] at H
               exact absurd H (by simp)
           · rw [if_neg c11] at H
             exact absurd H (by simp)
         · rw [if_neg c10] at H
           have c10b0 : decide (x28_2 < (x5_1.length : Int)) = false := decide_eq_false c10
           clear c10
           obtain rfl := Option.some.inj H
           go_wp2
           go_ret
           exact ⟨_, zE, by refine zR ?_; exact Kd.R_mono HO_6.out (fun _ hk => trivial), zB⟩
end Go.Proofs.Ytfmjckkgnieccaa.P
end
section
namespace Go.Proofs.Ytfmjckkgnieccaa.P
open Go.RowKit Go.Proofs.YtfmjckkgnieccaaW.PrintWords Go.Proofs.YtfmjckkgnieccaaW.PrintLast Go.Proofs.YtfmjckkgnieccaaW.PrintMore
attribute [local go_sem] max2_int min2_int max_two min_two max_three min_three max_four min_four   -- for this text's walks alone
set_option linter.unusedVariables false
set_option linter.unusedSimpArgs false
def slices_Min_Sint64_int64.l0 : Nat → List Int → Int → Int → Option (Int)
  | 0, _, _, _ => none
  | k + 1, x0, x3, x4 => if x4 < (x0.length : Int) then (if 0 ≤ x4 then (slices_Min_Sint64_int64.l0 k x0 (mn x3 (rd x0 x4)) (wrap64 (x4 + 1))) else (none)) else (some x3)
def slices_Min_Sint64_int64.f (k : Nat) (l0 : List Int) : Option (Int) := if (l0.length : Int) < 1 then (none) else (if 0 < (l0.length : Int) then (slices_Min_Sint64_int64.l0 k l0 (rd l0 0) 1) else (none))
theorem slices_Min_Sint64_int64.mono_l : ∀ k, (∀ y0 y1 y2, LeO (slices_Min_Sint64_int64.l0 k y0 y1 y2) (slices_Min_Sint64_int64.l0 (k + 1) y0 y1 y2))
  | 0 => fun _ _ _ r h => by simp [slices_Min_Sint64_int64.l0] at h
  | k + 1 => by
    have ih0 := slices_Min_Sint64_int64.mono_l k
    · intro y0 y1 y2
      unfold slices_Min_Sint64_int64.l0
      repeat' first | (with_reducible exact ih0 _ _ _) | (with_reducible exact LeO.refl _) | (with_reducible exact LeO.none _) | (with_reducible refine LeO.ite ?_ ?_) | (with_reducible refine LeO.bind ?_ (fun _ => ?_)) | exact ih0 _ _ _ | exact LeO.none _ | refine LeO.ite ?_ ?_ | refine LeO.bind ?_ (fun _ => ?_)
theorem slices_Min_Sint64_int64.mono : ∀ a0 k, LeO (slices_Min_Sint64_int64.f k a0) (slices_Min_Sint64_int64.f (k + 1) a0) := by
  intro a0 k
  have ih0 := slices_Min_Sint64_int64.mono_l k
  unfold slices_Min_Sint64_int64.f
  repeat' first | (with_reducible exact ih0 _ _ _) | (with_reducible exact LeO.refl _) | (with_reducible exact LeO.none _) | (with_reducible refine LeO.ite ?_ ?_) | (with_reducible refine LeO.bind ?_ (fun _ => ?_)) | exact ih0 _ _ _ | exact LeO.none _ | refine LeO.ite ?_ ?_ | refine LeO.bind ?_ (fun _ => ?_)
set_option maxHeartbeats 8000000 in
set_option maxRecDepth 100000 in
theorem slices_Min_Sint64_int64.calls (k : Nat) (A0 : Option Addr) (c0 : Nat) (l0 : List Int) (r : Int) (w : World) (hr0 : Kd.C (Kd.int .i64) w A0 l0.length l0) (hc0 : l0.length ≤ c0) (h : slices_Min_Sint64_int64.f k l0 = some r) :
    Calls Try.prog 46 #[.slice A0 l0.length c0] w fun e w' => e = .returned (.int .i64 r) ∧ Below w.heap.size w w' := by
 have HR0 := Aside0.mk hr0
 have HC0 := Aside0.mk hc0
 clear hr0 hc0
 have HB := Aside0.mk (Below.refl w.heap.size w)
 have H : (if (l0.length : Int) < 1 then (none) else (if 0 < (l0.length : Int) then (slices_Min_Sint64_int64.l0 k l0 (rd l0 0) 1) else (none))) = some r := h
 clear h
 by_cases c2 : (l0.length : Int) < 1
 ·
  rw [if_pos c2] at H
  exact absurd H (by simp)
 rw [if_neg c2] at H
 have c2b0 : decide ((l0.length : Int) < 1) = false := decide_eq_false c2
 have c2b1 : decide (l0.length < 1) = false := decide_eq_false (by omega)
 clear c2
 by_cases c3 : 0 < (l0.length : Int)
 case neg => rw [if_neg c3] at H; exact absurd H (by simp)
 rw [if_pos c3] at H
 have c3b0 : decide (0 < (l0.length : Int)) = true := decide_eq_true c3
 have c3b1 : decide (0 < l0.length) = true := decide_eq_true (by omega)
 clear c3
 have H' := Aside0.mk H
 clear H
 have p101 : 0 ≤ (0 : Int) := (by omega)
 have q101 : 0 < (l0.length : Int) := zD
 obtain ⟨ad101, e101, hx101_0⟩ := Kd.at_int HR0.out 0 p101 q101
 cases e101
 have qi101 : (0 < l0.length) = True := eq_true (by omega)
 (try rw [show ((0 : Int)).toNat = 0 from rfl] at hx101_0)
 (try rw [Addr.add_zero'] at hx101_0)
 replace p101 := eq_true p101
 replace q101 := eq_true q101
 go_enter Try.func46, Try.ntmps46
 go_wp2
 go_loopg [3, 4] k (fun kq v3 v4 w' => ∃ (x3_1 : Int) (x4_1 : Int), v3 = .int .i64 x3_1 ∧ v4 = .int .i64 x4_1 ∧ Aside0 (slices_Min_Sint64_int64.l0 kq l0 x3_1 x4_1 = some r) ∧ Aside0 (kq ≤ k) ∧ Aside0 (Below w.heap.size w w'))
 case atStart => exact ⟨(rd l0 0), (1), zF, zF, H', ⟨Nat.le_refl _⟩, ⟨zB⟩⟩
 clear H'
 try clear c2
 try clear c2b0
 try clear c2b1
 try clear c3
 try clear c3b0
 try clear c3b1
 try clear hx101_0
 try clear p101
 try clear q101
 obtain ⟨x3_1, x4_1, rfl, rfl, HA, HK1, HB⟩ := hrel
 cases gk with
 | zero => exact absurd HA.out (by simp [slices_Min_Sint64_int64.l0])
 | succ k1 =>
   have H := HA.out
   clear HA
   simp only [slices_Min_Sint64_int64.l0] at H
   by_cases c4 : x4_1 < (l0.length : Int)
   · rw [if_pos c4] at H
     have c4b0 : decide (x4_1 < (l0.length : Int)) = true := decide_eq_true c4
     clear c4
     by_cases c5 : 0 ≤ x4_1
     · rw [if_pos c5] at H
       have c5b0 : decide (0 ≤ x4_1) = true := decide_eq_true c5
       clear c5
       obtain ⟨ji6, hji6⟩ : ∃ j_ : Int, (mn x3_1 (rd l0 x4_1)) = j_ := ⟨_, rfl⟩
       replace H : (slices_Min_Sint64_int64.l0 k1 l0 ji6 (wrap64 (x4_1 + 1))) = some r := by first | (rw [hji6] at H; exact H) | (simp only [hji6] at H ⊢; exact H)
       have hji6_ : (if (rd l0 x4_1) < x3_1 then (rd l0 x4_1) else x3_1) = ji6 := hji6
       have H' := Aside0.mk H
       clear H
       have p102 : 0 ≤ (x4_1 : Int) := zD
       have q102 : x4_1 < (l0.length : Int) := zD
       obtain ⟨ad102, e102, hx102_0⟩ := Kd.at_int HR0.out x4_1 p102 q102
       obtain rfl : ad101 = ad102 := (by injection e102)
       replace hx102_0 := (HB.out.cell (World.block_lt_of_cell? w _ hx102_0)).trans hx102_0
       replace p102 := eq_true p102
       replace q102 := eq_true q102
       go_wp2
       go_roundg k1
       case measure => have := HK1.out; omega
       case rel => exact ⟨(ji6), (wrap64 (x4_1 + 1)), (by first | rfl | (simp; done) | (simp only [← hji6] <;> (first | rfl | simp)) | (simp [*]; done)), zF, H', ⟨by have := HK1.out; omega⟩, ⟨zB⟩⟩
     · rw [if_neg c5] at H
       exact absurd H (by simp)
   · rw [if_neg c4] at H
     have c4b0 : decide (x4_1 < (l0.length : Int)) = false := decide_eq_false c4
     clear c4
     obtain rfl := Option.some.inj H
     go_wp2
     go_ret
     exact ⟨zE, zB⟩
end Go.Proofs.Ytfmjckkgnieccaa.P
end
section
namespace Go.Proofs.Ytfmjckkgnieccaa.P
open Go.RowKit Go.Proofs.YtfmjckkgnieccaaW.PrintWords Go.Proofs.YtfmjckkgnieccaaW.PrintLast Go.Proofs.YtfmjckkgnieccaaW.PrintMore
attribute [local go_sem] max2_int min2_int max_two min_two max_three min_three max_four min_four   -- for this text's walks alone
set_option linter.unusedVariables false
set_option linter.unusedSimpArgs false
def impl_SpreadsOf.l0 : Nat → List Int → List (List Int) → Int → Int → Option ((List (List Int)) × Int)
  | 0, _, _, _, _ => none
  | k + 1, x0, x5, x15, x16 => if x16 < x15 then ((impl_waits.f k x0 x16).bind fun t103 => ((slices_Min_Sint64_int64.f k t103).bind fun t106 => ((slices_Max_Sint64_int64.f k t103).bind fun t107 => (if x5.length < 5864062014805 then (impl_SpreadsOf.l0 k x0 (x5 ++ [(([t106, t107] : List Int))]) x15 (wrap64 (x16 + 1))) else (none))))) else (some (x5, 0))
def impl_SpreadsOf.f (k : Nat) (l0 : List Int) : Option ((List (List Int)) × Int) := (impl_levelCode.f k l0).bind fun t101 => (if t101 = 0 then ((slices_Max_Sint64_int64.f k l0).bind fun t102 => (impl_SpreadsOf.l0 k l0 ([] : List (List Int)) (wrap64 (t102 + 1)) 0)) else (some (([] : List (List Int)), t101)))
theorem impl_SpreadsOf.mono_l : ∀ k, (∀ y0 y1 y2 y3, LeO (impl_SpreadsOf.l0 k y0 y1 y2 y3) (impl_SpreadsOf.l0 (k + 1) y0 y1 y2 y3))
  | 0 => fun _ _ _ _ r h => by simp [impl_SpreadsOf.l0] at h
  | k + 1 => by
    have ih0 := impl_SpreadsOf.mono_l k
    · intro y0 y1 y2 y3
      unfold impl_SpreadsOf.l0
      repeat' first | (with_reducible exact ih0 _ _ _ _) | (with_reducible exact impl_levelCode.mono _ _) | (with_reducible exact impl_waits.mono _ _ _) | (with_reducible exact slices_Max_Sint64_int64.mono _ _) | (with_reducible exact slices_Min_Sint64_int64.mono _ _) | (with_reducible exact LeO.refl _) | (with_reducible exact LeO.none _) | (with_reducible refine LeO.ite ?_ ?_) | (with_reducible refine LeO.bind ?_ (fun _ => ?_)) | exact ih0 _ _ _ _ | exact impl_levelCode.mono _ _ | exact impl_waits.mono _ _ _ | exact slices_Max_Sint64_int64.mono _ _ | exact slices_Min_Sint64_int64.mono _ _ | exact LeO.none _ | refine LeO.ite ?_ ?_ | refine LeO.bind ?_ (fun _ => ?_)
theorem impl_SpreadsOf.mono : ∀ a0 k, LeO (impl_SpreadsOf.f k a0) (impl_SpreadsOf.f (k + 1) a0) := by
  intro a0 k
  have ih0 := impl_SpreadsOf.mono_l k
  unfold impl_SpreadsOf.f
  repeat' first | (with_reducible exact ih0 _ _ _ _) | (with_reducible exact impl_levelCode.mono _ _) | (with_reducible exact impl_waits.mono _ _ _) | (with_reducible exact slices_Max_Sint64_int64.mono _ _) | (with_reducible exact slices_Min_Sint64_int64.mono _ _) | (with_reducible exact LeO.refl _) | (with_reducible exact LeO.none _) | (with_reducible refine LeO.ite ?_ ?_) | (with_reducible refine LeO.bind ?_ (fun _ => ?_)) | exact ih0 _ _ _ _ | exact impl_levelCode.mono _ _ | exact impl_waits.mono _ _ _ | exact slices_Max_Sint64_int64.mono _ _ | exact slices_Min_Sint64_int64.mono _ _ | exact LeO.none _ | refine LeO.ite ?_ ?_ | refine LeO.bind ?_ (fun _ => ?_)
set_option maxHeartbeats 8000000 in
set_option maxRecDepth 100000 in
theorem impl_SpreadsOf.calls (k : Nat) (A0 : Option Addr) (c0 : Nat) (l0 : List Int) (r1 : List (List Int)) (r2 : Int) (w : World) (hr0 : Kd.C (Kd.int .i64) w A0 l0.length l0) (hc0 : l0.length ≤ c0) (h : impl_SpreadsOf.f k l0 = some (r1, r2)) :
    Calls Try.prog 17 #[.slice A0 l0.length c0] w fun e w' => ∃ v0_ : Value, e = .returned (.tuple #[v0_, .int .i64 r2]) ∧ Kd.S (Kd.slice 2 (Kd.int .i64)) 24 w' w.heap.size (fun _ => True) v0_ r1 ∧ Below w.heap.size w w' := by
 have HR0 := Aside0.mk hr0
 have HC0 := Aside0.mk hc0
 clear hr0 hc0
 have HB := Aside0.mk (Below.refl w.heap.size w)
 have H : ((impl_levelCode.f k l0).bind fun t101 => (if t101 = 0 then ((slices_Max_Sint64_int64.f k l0).bind fun t102 => (impl_SpreadsOf.l0 k l0 ([] : List (List Int)) (wrap64 (t102 + 1)) 0)) else (some (([] : List (List Int)), t101)))) = some (r1, r2) := h
 clear h
 replace H := Option.bind_eq_some_iff.mp H
 obtain ⟨t101, A20, H⟩ := H
 replace H : (if t101 = 0 then ((slices_Max_Sint64_int64.f k l0).bind fun t102 => (impl_SpreadsOf.l0 k l0 ([] : List (List Int)) (wrap64 (t102 + 1)) 0)) else (some (([] : List (List Int)), t101))) = some (r1, r2) := H
 have A2 := Aside0.mk A20
 clear A20
 by_cases c3 : t101 = 0
 ·
  rw [if_pos c3] at H
  have c3b0 : (t101 == 0) = true := beq_iff_eq.mpr c3
  have c3b1 : (t101 != 0) = false := bne_eq_false_iff_eq.mpr c3
  clear c3
  replace H := Option.bind_eq_some_iff.mp H
  obtain ⟨t102, A40, H⟩ := H
  replace H : (impl_SpreadsOf.l0 k l0 ([] : List (List Int)) (wrap64 (t102 + 1)) 0) = some (r1, r2) := H
  have A4 := Aside0.mk A40
  clear A40
  have H' := Aside0.mk H
  clear H
  go_enter Try.func17, Try.ntmps17
  go_wp2_with (first | ((with_reducible refine gate_callee (f := 27) rfl ?_); refine goesL_ (some 9) rfl rfl Try.func27 zk rfl #[.slice A0 l0.length c0] rfl zA ?_; (with_reducible refine (impl_levelCode.calls k _ _ l0 t101 _ ?side1 ?side2 A2.out).mono ?_); (case side1 => exact zC HR0.out); (case side2 => exact HC0.out); rintro e w5 ⟨rfl, hb⟩; refine ⟨_, rfl, ?_⟩; replace HB := Aside0.mk (below_step (zB) hb); (try clear hb); (try clear hb2); (try clear hk); (try clear hi)) | ((with_reducible refine gate_callee (f := 44) rfl ?_); refine goesL_ (some 14) rfl rfl Try.func44 zk rfl #[.slice A0 l0.length c0] rfl zA ?_; (with_reducible refine (slices_Max_Sint64_int64.calls k _ _ l0 t102 _ ?side1 ?side2 A4.out).mono ?_); (case side1 => exact zC (Kd.C_below HR0.out HB.out)); (case side2 => exact HC0.out); rintro e w6 ⟨rfl, hb⟩; refine ⟨_, rfl, ?_⟩; replace HB := Aside0.mk (below_step (zB) hb); (try clear hb); (try clear hb2); (try clear hk); (try clear hi)))
  go_loopg [5, 16] k (fun kq v5 v16 w' => ∃ (x5_1 : List (List Int)) (x16_1 : Int), v16 = .int .i64 x16_1 ∧ Aside0 (impl_SpreadsOf.l0 kq l0 x5_1 (wrap64 (t102 + 1)) x16_1 = some (r1, r2)) ∧ Aside0 (kq ≤ k) ∧ Aside0 (Kd.S (Kd.slice 2 (Kd.int .i64)) 24 w' w.heap.size (fun _ => True) v5 x5_1) ∧ Aside0 (Below w.heap.size w w'))
  case atStart => exact ⟨(([] : List (List Int))), (0), zF, H', ⟨Nat.le_refl _⟩, ⟨by first | exact Kd.S_nil _ _ _ _ _ | exact Kd.N_nil _ _ _ _ _ | exact Kd.V_nil _ _ _ _ _ | exact Kd.Q_nil _ _ _ _ _ | exact Kd.R_nil _ _ _ _ _⟩, ⟨zB⟩⟩
  clear H'
  try clear c3
  try clear c3b0
  try clear c3b1
  obtain ⟨x5_1, x16_1, rfl, HA, HK1, HO_5, HB⟩ := hrel
  cases gk with
  | zero => exact absurd HA.out (by simp [impl_SpreadsOf.l0])
  | succ k1 =>
    have H := HA.out
    clear HA
    simp only [impl_SpreadsOf.l0] at H
    by_cases c7 : x16_1 < (wrap64 (t102 + 1))
    · rw [if_pos c7] at H
      have c7b0 : decide (x16_1 < (wrap64 (t102 + 1))) = true := decide_eq_true c7
      clear c7
      replace H := Option.bind_eq_some_iff.mp H
      obtain ⟨t103, A80, H⟩ := H
      replace H : ((slices_Min_Sint64_int64.f k1 t103).bind fun t106 => ((slices_Max_Sint64_int64.f k1 t103).bind fun t107 => (if x5_1.length < 5864062014805 then (impl_SpreadsOf.l0 k1 l0 (x5_1 ++ [(([t106, t107] : List Int))]) (wrap64 (t102 + 1)) (wrap64 (x16_1 + 1))) else (none)))) = some (r1, r2) := H
      have A8 := Aside0.mk A80
      clear A80
      replace H := Option.bind_eq_some_iff.mp H
      obtain ⟨t106, A90, H⟩ := H
      replace H : ((slices_Max_Sint64_int64.f k1 t103).bind fun t107 => (if x5_1.length < 5864062014805 then (impl_SpreadsOf.l0 k1 l0 (x5_1 ++ [(([t106, t107] : List Int))]) (wrap64 (t102 + 1)) (wrap64 (x16_1 + 1))) else (none))) = some (r1, r2) := H
      have A9 := Aside0.mk A90
      clear A90
      replace H := Option.bind_eq_some_iff.mp H
      obtain ⟨t107, A100, H⟩ := H
      replace H : (if x5_1.length < 5864062014805 then (impl_SpreadsOf.l0 k1 l0 (x5_1 ++ [(([t106, t107] : List Int))]) (wrap64 (t102 + 1)) (wrap64 (x16_1 + 1))) else (none)) = some (r1, r2) := H
      have A10 := Aside0.mk A100
      clear A100
      obtain ⟨y108, hy108⟩ : ∃ y_ : List Int, y_ = (([t106, t107] : List Int)) := ⟨_, rfl⟩
      replace H : (if x5_1.length < 5864062014805 then (impl_SpreadsOf.l0 k1 l0 (x5_1 ++ [y108]) (wrap64 (t102 + 1)) (wrap64 (x16_1 + 1))) else (none)) = some (r1, r2) := zH hy108
      have Ny108 := Aside0.mk hy108
      clear hy108
      by_cases c11 : x5_1.length < 5864062014805
      · rw [if_pos c11] at H
        have LMc11 := Aside0.mk c11
        clear c11
        obtain ⟨y111, hy111⟩ : ∃ y_ : List (List Int), y_ = (x5_1 ++ [y108]) := ⟨_, rfl⟩
        replace H : (impl_SpreadsOf.l0 k1 l0 y111 (wrap64 (t102 + 1)) (wrap64 (x16_1 + 1))) = some (r1, r2) := zH hy111
        have Ny111 := Aside0.mk hy111
        clear hy111
        have H' := Aside0.mk H
        clear H
        go_wp2_with (first | ((with_reducible refine gate_callee (f := 45) rfl ?_); refine goesL_ (some 21) rfl rfl Try.func45 zk rfl #[.slice A0 l0.length c0, .int .i64 x16_1] rfl zA ?_; (with_reducible refine (impl_waits.calls k1 _ _ l0 x16_1 t103 _ ?side1 ?side2 A8.out).mono ?_); (case side1 => exact zC (Kd.C_below HR0.out HB.out)); (case side2 => exact HC0.out); rintro e w12 ⟨v104, rfl, ho0, hb⟩; refine ⟨_, rfl, ?_⟩; have n_ := y3 (Kd.S_elder' (by (with_reducible repeat (first | apply Kd.S_alloc | apply Kd.S_drewN | apply Kd.S_drew)); exact HO_5.out) (Kd.R_base ho0) hb) (Kd.R_lower ho0 (below_size (zB))) (below_step (zB) hb); clear HO_5 HB; obtain ⟨HO_5, HO105, HB⟩ := n_; (try clear hb); (try clear hb2); (try clear hk); (try clear hi); (try clear ho0); obtain ⟨Ao13, co13, eo13⟩ := Kd.R_slice HO105.out; subst eo13) | ((with_reducible refine gate_callee (f := 46) rfl ?_); refine goesL_ (some 24) rfl rfl Try.func46 zk rfl #[.slice Ao13 t103.length co13] rfl zA ?_; (with_reducible refine (slices_Min_Sint64_int64.calls k1 _ _ t103 t106 _ ?side1 ?side2 A9.out).mono ?_); (case side1 => exact zC (Kd.R_reads' HO105.out).2.2); (case side2 => exact (Kd.R_reads' HO105.out).2.1); rintro e w14 ⟨rfl, hb⟩; refine ⟨_, rfl, ?_⟩; have n_ := y3 (Kd.S_below (by (with_reducible repeat (first | apply Kd.S_alloc | apply Kd.S_drewN | apply Kd.S_drew)); exact HO_5.out) hb) (Kd.R_below (zR HO105.out) hb) (below_step (zB) hb); clear HO_5 HO105 HB; obtain ⟨HO_5, HO105, HB⟩ := n_; (try clear hb); (try clear hb2); (try clear hk); (try clear hi)) | ((with_reducible refine gate_callee (f := 44) rfl ?_); refine goesL_ (some 26) rfl rfl Try.func44 zk rfl #[.slice Ao13 t103.length co13] rfl zA ?_; (with_reducible refine (slices_Max_Sint64_int64.calls k1 _ _ t103 t107 _ ?side1 ?side2 A10.out).mono ?_); (case side1 => exact zC (Kd.R_reads' HO105.out).2.2); (case side2 => exact (Kd.R_reads' HO105.out).2.1); rintro e w15 ⟨rfl, hb⟩; refine ⟨_, rfl, ?_⟩; have n_ := y3 (Kd.S_below (by (with_reducible repeat (first | apply Kd.S_alloc | apply Kd.S_drewN | apply Kd.S_drew)); exact HO_5.out) hb) (Kd.R_below (zR HO105.out) hb) (below_step (zB) hb); clear HO_5 HO105 HB; obtain ⟨HO_5, HO105, HB⟩ := n_; (try clear hb); (try clear hb2); (try clear hk); (try clear hi)) | ((with_reducible refine gate_dst (N := 27) rfl ?_); refine Kd.R_lit (Kd.int .i64) _ 2 ?hg (N := 27) ?hd (xs := ([t106, t107] : List Int)) (inner := [.int .i64 t106, .int .i64 t107]) (ok := fun _ => True) (okp := fun _ => True) ?hr ?hp (fun _ hk => hk) trivial (Below.refl _ _) (Nat.le_refl _) (by simp) ?_; (case hd => rfl); (case hg => rfl); (case hr => first | (go_simp; done) | (go_simp; rfl)); (case hp => exact (Reps.one (show Kd.M (Kd.int .i64) _ _ _ t106 [.int .i64 t106] from rfl) (Reps.one (show Kd.M (Kd.int .i64) _ _ _ t107 [.int .i64 t107] from rfl) (Reps.none _ _)))); intro v109 w16 ho17 hb hg_ hnew_; clear hg_ hnew_; (first | rw [← Ny108.out] at ho17 | (simp only [Int.reduceToNat] at ho17; rw [← Ny108.out] at ho17)); have n_ := y4 (Kd.S_elder' (by (with_reducible repeat (first | apply Kd.S_alloc | apply Kd.S_drewN | apply Kd.S_drew)); exact HO_5.out) (Kd.R_base ho17) hb) (Kd.R_elder' (zR HO105.out) (Kd.R_base ho17) hb) (Kd.R_lower (Kd.R_new' ho17 (Kd.R_lt (zR HO105.out))) (below_size (zB))) (below_step (zB) hb); clear HO_5 HO105 HB; obtain ⟨HO_5, HO105, HO110, HB⟩ := n_; clear hb ho17; obtain ⟨Ao19, co19, eo19⟩ := Kd.R_slice HO110.out; subst eo19) | ((with_reducible refine gate_builtin (b := .append) (xs := #[.tmp 22, .tmp 28]) rfl ?_); at_builtin; refine Kd.S_append (Kd.slice 2 (Kd.int .i64)) (w0 := w) w.heap.size rfl (.tmp 22) (.tmp 28) 36 24 (.slice none 0 0) 24 rfl Try.underlying36 info24 rfl (by decide) (by omega) u5 x5_1 y108 [.slice Ao19 y108.length co19] (fun k_ => some k_ ≠ (.slice Ao13 t103.length co13 : Value).ownBlock) (fun k_ => some k_ = (.slice Ao19 y108.length co19 : Value).ownBlock) rfl rfl ?aP (fun k_ hk_ => ((Kd.R_mono (ok' := fun k_ => ((fun k_ => some k_ ≠ (.slice Ao13 t103.length co13 : Value).ownBlock)) k_ ∧ some k_ ≠ (u5 : Value).ownBlock) (Kd.R_apart' (HO110.out) (Kd.S_typed HO_5.out) (by decide)) (fun k_ hk => ⟨hk.1.2, hk.2⟩))).1 k_ hk_.symm) ?aF ?aO ?aB ?aS ?aL ?_; (case aP => exact Kd.M_row (Kd.R_mono (Kd.R_tight rfl (Kd.R_mono (ok' := fun k_ => ((fun k_ => some k_ ≠ (.slice Ao13 t103.length co13 : Value).ownBlock)) k_ ∧ some k_ ≠ (u5 : Value).ownBlock) (Kd.R_apart' (HO110.out) (Kd.S_typed HO_5.out) (by decide)) (fun k_ hk => ⟨hk.1.2, hk.2⟩))) (fun _ h_ => h_))); (case aB => exact (zB)); (case aF => exact (fun k_ hk => Kd.fresh' (Kd.R_lt (zR HO105.out)) k_ hk)); (case aO => exact (by (with_reducible repeat (first | apply Kd.S_alloc | apply Kd.S_drewN | apply Kd.S_drew)); exact Kd.S_mono HO_5.out (fun k_ hk => ⟨hk.1.2, fun e_ => hk.2 e_⟩))); (case aS => exact (below_size (zB))); (case aL => have := LMc11.out; omega); intro v112 w18 ho hb hg hat; rw [← Ny111.out] at ho; have n_ := y3 (Kd.R_over' (zR HO105.out) (Kd.S_typed (by (with_reducible repeat (first | apply Kd.S_alloc | apply Kd.S_drewN | apply Kd.S_drew)); exact HO_5.out)) (by decide) hg) (hb) (ho); clear HO105 HB HO_5 HO110; obtain ⟨HO105, HB, HO113⟩ := n_; clear ho hb hg hat))
        go_roundg k1
        case measure => have := HK1.out; omega
        case rel => exact ⟨(y111), (wrap64 (x16_1 + 1)), zF, H', ⟨by have := HK1.out; omega⟩, ⟨by (with_reducible repeat (first | apply Kd.S_alloc | apply Kd.S_drewN | apply Kd.S_drew)); exact Kd.S_mono HO113.out (fun _ hk => trivial)⟩, ⟨zB⟩⟩
      · rw [if_neg c11] at H
        exact absurd H (by simp)
    · rw [if_neg c7] at H
      have c7b0 : decide (x16_1 < (wrap64 (t102 + 1))) = false := decide_eq_false c7
      clear c7
      simp only [Option.some.injEq, Prod.mk.injEq] at H
      obtain ⟨rfl, rfl⟩ := H
      go_wp2
      go_ret2
      exact ⟨_, zE, by (with_reducible repeat (first | apply Kd.S_alloc | apply Kd.S_drewN | apply Kd.S_drew)); exact HO_5.out, zB⟩
 rw [if_neg c3] at H
 have c3b0 : (t101 == 0) = false := beq_eq_false_iff_ne.mpr c3
 have c3b1 : (t101 != 0) = true := bne_iff_ne.mpr c3
 simp only [Option.some.injEq, Prod.mk.injEq] at H
 obtain ⟨rfl, rfl⟩ := H
 go_enter Try.func17, Try.ntmps17
 go_wp2_with (first | ((with_reducible refine gate_callee (f := 27) rfl ?_); refine goesL_ (some 9) rfl rfl Try.func27 zk rfl #[.slice A0 l0.length c0] rfl zA ?_; (with_reducible refine (impl_levelCode.calls k _ _ l0 t101 _ ?side1 ?side2 A2.out).mono ?_); (case side1 => exact zC HR0.out); (case side2 => exact HC0.out); rintro e w20 ⟨rfl, hb⟩; refine ⟨_, rfl, ?_⟩; replace HB := Aside0.mk (below_step (zB) hb); (try clear hb); (try clear hb2); (try clear hk); (try clear hi)))
 go_ret2
 exact ⟨_, zE, by first | exact Kd.S_nil _ _ _ _ _ | exact Kd.N_nil _ _ _ _ _ | exact Kd.V_nil _ _ _ _ _ | exact Kd.Q_nil _ _ _ _ _ | exact Kd.R_nil _ _ _ _ _, zB⟩
end Go.Proofs.Ytfmjckkgnieccaa.P
end
section
namespace Go.Proofs.Ytfmjckkgnieccaa.P
open Go.RowKit Go.Proofs.YtfmjckkgnieccaaW.PrintWords Go.Proofs.YtfmjckkgnieccaaW.PrintLast Go.Proofs.YtfmjckkgnieccaaW.PrintMore
attribute [local go_sem] max2_int min2_int max_two min_two max_three min_three max_four min_four   -- for this text's walks alone
set_option linter.unusedVariables false
set_option linter.unusedSimpArgs false
def spec_l01Waits.l0 : Nat → List Int → Int → List Int → Int → Int → Int → Option (List Int)
  | 0, _, _, _, _, _, _ => none
  | k + 1, x0, x1, x5, x6, x7, x8 => if x8 < (x0.length : Int) then (if 0 ≤ x8 then (if (rd x0 x8) = x1 then (if x6 < 0 then (spec_l01Waits.l0 k x0 x1 x5 x8 x8 (wrap64 (x8 + 1))) else (if x5.length < 17592186044416 then (spec_l01Waits.l0 k x0 x1 (x5 ++ [wrap64 (x8 - x7)]) x6 x8 (wrap64 (x8 + 1))) else (none))) else (spec_l01Waits.l0 k x0 x1 x5 x6 x7 (wrap64 (x8 + 1)))) else (none)) else (if x6 ≥ 0 then (if x5.length < 17592186044416 then (some (x5 ++ [wrap64 ((wrap64 ((x0.length : Int) - x7)) + x6)])) else (none)) else (some x5))
def spec_l01Waits.f (k : Nat) (l0 : List Int) (a1 : Int) : Option (List Int) := spec_l01Waits.l0 k l0 a1 (([] : List Int)) (-1) (-1) 0
theorem spec_l01Waits.mono_l : ∀ k, (∀ y0 y1 y2 y3 y4 y5, LeO (spec_l01Waits.l0 k y0 y1 y2 y3 y4 y5) (spec_l01Waits.l0 (k + 1) y0 y1 y2 y3 y4 y5))
  | 0 => fun _ _ _ _ _ _ r h => by simp [spec_l01Waits.l0] at h
  | k + 1 => by
    have ih0 := spec_l01Waits.mono_l k
    · intro y0 y1 y2 y3 y4 y5
      unfold spec_l01Waits.l0
      repeat' first | (with_reducible exact ih0 _ _ _ _ _ _) | (with_reducible exact LeO.refl _) | (with_reducible exact LeO.none _) | (with_reducible refine LeO.ite ?_ ?_) | (with_reducible refine LeO.bind ?_ (fun _ => ?_)) | exact ih0 _ _ _ _ _ _ | exact LeO.none _ | refine LeO.ite ?_ ?_ | refine LeO.bind ?_ (fun _ => ?_)
theorem spec_l01Waits.mono : ∀ a0 a1 k, LeO (spec_l01Waits.f k a0 a1) (spec_l01Waits.f (k + 1) a0 a1) := by
  intro a0 a1 k
  have ih0 := spec_l01Waits.mono_l k
  unfold spec_l01Waits.f
  repeat' first | (with_reducible exact ih0 _ _ _ _ _ _) | (with_reducible exact LeO.refl _) | (with_reducible exact LeO.none _) | (with_reducible refine LeO.ite ?_ ?_) | (with_reducible refine LeO.bind ?_ (fun _ => ?_)) | exact ih0 _ _ _ _ _ _ | exact LeO.none _ | refine LeO.ite ?_ ?_ | refine LeO.bind ?_ (fun _ => ?_)
set_option maxHeartbeats 8000000 in
set_option maxRecDepth 100000 in
theorem spec_l01Waits.calls (k : Nat) (A0 : Option Addr) (c0 : Nat) (l0 : List Int) (a1 : Int) (r : List Int) (w : World) (hr0 : Kd.C (Kd.int .i64) w A0 l0.length l0) (hc0 : l0.length ≤ c0) (h : spec_l01Waits.f k l0 a1 = some r) :
    Calls Try.prog 47 #[.slice A0 l0.length c0, .int .i64 a1] w fun e w' => ∃ v0_ : Value, e = .returned (v0_) ∧ Kd.R (Kd.int .i64) 2 w' w.heap.size (fun _ => True) v0_ r ∧ Below w.heap.size w w' := by
 have HR0 := Aside0.mk hr0
 have HC0 := Aside0.mk hc0
 clear hr0 hc0
 have HB := Aside0.mk (Below.refl w.heap.size w)
 have H : (spec_l01Waits.l0 k l0 a1 (([] : List Int)) (-1) (-1) 0) = some r := h
 clear h
 obtain ⟨y101, hy101⟩ : ∃ y_ : List Int, y_ = (([] : List Int)) := ⟨_, rfl⟩
 replace H : (spec_l01Waits.l0 k l0 a1 y101 (-1) (-1) 0) = some r := zH hy101
 have Ny101 := Aside0.mk hy101
 clear hy101
 have H' := Aside0.mk H
 clear H
 go_enter Try.func47, Try.ntmps47
 go_wp2_with (first | ((with_reducible refine gate_dst (N := 9) rfl ?_); refine Kd.R_lit (Kd.int .i64) _ 2 ?hg (N := 9) ?hd (xs := ([] : List Int)) (inner := []) (ok := fun _ => True) (okp := fun _ => True) ?hr ?hp (fun _ hk => hk) trivial (Below.refl _ _) (Nat.le_refl _) (by simp) ?_; (case hd => rfl); (case hg => rfl); (case hr => first | (go_simp; done) | (go_simp; rfl)); (case hp => exact (Reps.none _ _)); intro v102 w3 ho4 hb hg_ hnew_; clear hg_ hnew_; (first | rw [← Ny101.out] at ho4 | (simp only [Int.reduceToNat] at ho4; rw [← Ny101.out] at ho4)); have n_ := y2 (Kd.R_lower ho4 (below_size (zB))) (below_step (zB) hb); clear HB; obtain ⟨HO103, HB⟩ := n_; clear hb ho4))
 go_loopg [5, 6, 7, 8] k (fun kq v5 v6 v7 v8 w' => ∃ (x5_1 : List Int) (x6_1 : Int) (x7_1 : Int) (x8_1 : Int), v6 = .int .i64 x6_1 ∧ v7 = .int .i64 x7_1 ∧ v8 = .int .i64 x8_1 ∧ Aside0 (spec_l01Waits.l0 kq l0 a1 x5_1 x6_1 x7_1 x8_1 = some r) ∧ Aside0 (kq ≤ k) ∧ Aside0 (Kd.R (Kd.int .i64) 2 w' w.heap.size (fun _ => True) v5 x5_1) ∧ Aside0 (Below w.heap.size w w'))
 case atStart => exact ⟨(y101), ((-1)), ((-1)), (0), zF, zF, zF, H', ⟨Nat.le_refl _⟩, ⟨zR HO103.out⟩, ⟨zB⟩⟩
 clear H'
 obtain ⟨x5_1, x6_1, x7_1, x8_1, rfl, rfl, rfl, HA, HK1, HO_5, HB⟩ := hrel
 cases gk with
 | zero => exact absurd HA.out (by simp [spec_l01Waits.l0])
 | succ k1 =>
   have H := HA.out
   clear HA
   simp only [spec_l01Waits.l0] at H
   by_cases c5 : x8_1 < (l0.length : Int)
   · rw [if_pos c5] at H
     have c5b0 : decide (x8_1 < (l0.length : Int)) = true := decide_eq_true c5
     clear c5
     by_cases c6 : 0 ≤ x8_1
     · rw [if_pos c6] at H
       have c6b0 : decide (0 ≤ x8_1) = true := decide_eq_true c6
       clear c6
       by_cases c7 : (rd l0 x8_1) = a1
       · rw [if_pos c7] at H
         have c7b0 : ((rd l0 x8_1) == a1) = true := beq_iff_eq.mpr c7
         have c7b1 : ((rd l0 x8_1) != a1) = false := bne_eq_false_iff_eq.mpr c7
         clear c7
         by_cases c8 : x6_1 < 0
         · rw [if_pos c8] at H
           have c8b0 : decide (x6_1 < 0) = true := decide_eq_true c8
           clear c8
           have H' := Aside0.mk H
           clear H
           have p107 : 0 ≤ (x8_1 : Int) := zD
           have q107 : x8_1 < (l0.length : Int) := zD
           obtain ⟨ad107, e107, hx107_0⟩ := Kd.at_int HR0.out x8_1 p107 q107
           cases e107
           replace hx107_0 := (HB.out.cell (World.block_lt_of_cell? w _ hx107_0)).trans hx107_0
           replace p107 := eq_true p107
           replace q107 := eq_true q107
           go_wp2
           go_roundg k1
           case measure => have := HK1.out; omega
           case rel => exact ⟨(x5_1), (x8_1), (x8_1), (wrap64 (x8_1 + 1)), zF, zF, zF, H', ⟨by have := HK1.out; omega⟩, ⟨zR HO_5.out⟩, ⟨zB⟩⟩
         · rw [if_neg c8] at H
           have c8b0 : decide (x6_1 < 0) = false := decide_eq_false c8
           clear c8
           by_cases c9 : x5_1.length < 17592186044416
           · rw [if_pos c9] at H
             have LMc9 := Aside0.mk c9
             clear c9
             obtain ⟨y108, hy108⟩ : ∃ y_ : List Int, y_ = (x5_1 ++ [wrap64 (x8_1 - x7_1)]) := ⟨_, rfl⟩
             replace H : (spec_l01Waits.l0 k1 l0 a1 y108 x6_1 x8_1 (wrap64 (x8_1 + 1))) = some r := zH hy108
             have Ny108 := Aside0.mk hy108
             clear hy108
             have H' := Aside0.mk H
             clear H
             have p107 : 0 ≤ (x8_1 : Int) := zD
             have q107 : x8_1 < (l0.length : Int) := zD
             obtain ⟨ad107, e107, hx107_0⟩ := Kd.at_int HR0.out x8_1 p107 q107
             cases e107
             replace hx107_0 := (HB.out.cell (World.block_lt_of_cell? w _ hx107_0)).trans hx107_0
             replace p107 := eq_true p107
             replace q107 := eq_true q107
             go_wp2_with (first | ((with_reducible refine gate_builtin (b := .append) (xs := #[.tmp 25, .tmp 29]) rfl ?_); at_builtin; refine Kd.R_append (Kd.int .i64) (w0 := w) w.heap.size rfl (.tmp 25) (.tmp 29) 24 2 (.int .i64 0) 8 rfl Try.underlying24 info2 rfl (by decide) (by omega) u5 x5_1 (wrap64 (x8_1 - x7_1)) [.int .i64 (wrap64 (x8_1 - x7_1))] (fun _ => True) (fun _ => False) rfl rfl ?aP (fun _ hk => hk.elim) ?aF ?aO ?aB ?aS ?aL ?_; (case aP => exact rfl); (case aB => exact (zB)); (case aF => exact (fun _ _ => trivial)); (case aO => exact (zR HO_5.out)); (case aS => exact (below_size (zB))); (case aL => have := LMc9.out; omega); intro v109 w10 ho hb hg hat; rw [← Ny108.out] at ho; have n_ := y2 (hb) (ho); clear HB HO_5; obtain ⟨HB, HO110⟩ := n_; clear ho hb hg hat))
             go_roundg k1
             case measure => have := HK1.out; omega
             case rel => exact ⟨(y108), (x6_1), (x8_1), (wrap64 (x8_1 + 1)), zF, zF, zF, H', ⟨by have := HK1.out; omega⟩, ⟨zR HO110.out⟩, ⟨zB⟩⟩
           · rw [if_neg c9] at H
             exact absurd H (by simp)
       · rw [if_neg c7] at H
         have c7b0 : ((rd l0 x8_1) == a1) = false := beq_eq_false_iff_ne.mpr c7
         have c7b1 : ((rd l0 x8_1) != a1) = true := bne_iff_ne.mpr c7
         have H' := Aside0.mk H
         clear H
         have p107 : 0 ≤ (x8_1 : Int) := zD
         have q107 : x8_1 < (l0.length : Int) := zD
         obtain ⟨ad107, e107, hx107_0⟩ := Kd.at_int HR0.out x8_1 p107 q107
         cases e107
         replace hx107_0 := (HB.out.cell (World.block_lt_of_cell? w _ hx107_0)).trans hx107_0
         replace p107 := eq_true p107
         replace q107 := eq_true q107
         go_wp2
         go_roundg k1
         case measure => have := HK1.out; omega
         case rel => exact ⟨(x5_1), (x6_1), (x7_1), (wrap64 (x8_1 + 1)), zF, zF, zF, H', ⟨by have := HK1.out; omega⟩, ⟨zR HO_5.out⟩, ⟨zB⟩⟩
     · rw [if_neg c6] at H
       exact absurd H (by simp)
   · rw [if_neg c5] at H
     have c5b0 : decide (x8_1 < (l0.length : Int)) = false := decide_eq_false c5
     clear c5
     by_cases c11 : x6_1 ≥ 0
     · rw [if_pos c11] at H
       have c11b0 : decide (0 ≤ x6_1) = true := decide_eq_true c11
       clear c11
       by_cases c12 : x5_1.length < 17592186044416
       · rw [if_pos c12] at H
         have LMc12 := Aside0.mk c12
         clear c12
         obtain ⟨y104, hy104⟩ : ∃ y_ : List Int, y_ = (x5_1 ++ [wrap64 ((wrap64 ((l0.length : Int) - x7_1)) + x6_1)]) := ⟨_, rfl⟩
         replace H : (some y104) = some r := zH hy104
         have Ny104 := Aside0.mk hy104
         clear hy104
         obtain rfl := Option.some.inj H
         go_wp2_with (first | ((with_reducible refine gate_builtin (b := .append) (xs := #[.tmp 34, .tmp 41]) rfl ?_); at_builtin; refine Kd.R_append (Kd.int .i64) (w0 := w) w.heap.size rfl (.tmp 34) (.tmp 41) 24 2 (.int .i64 0) 8 rfl Try.underlying24 info2 rfl (by decide) (by omega) u5 x5_1 (wrap64 ((wrap64 ((l0.length : Int) - x7_1)) + x6_1)) [.int .i64 (wrap64 ((wrap64 ((l0.length : Int) - x7_1)) + x6_1))] (fun _ => True) (fun _ => False) rfl rfl ?aP (fun _ hk => hk.elim) ?aF ?aO ?aB ?aS ?aL ?_; (case aP => exact rfl); (case aB => exact (zB)); (case aF => exact (fun _ _ => trivial)); (case aO => exact (zR HO_5.out)); (case aS => exact (below_size (zB))); (case aL => have := LMc12.out; omega); intro v105 w13 ho hb hg hat; rw [← Ny104.out] at ho; have n_ := y2 (hb) (ho); clear HB HO_5; obtain ⟨HB, HO106⟩ := n_; clear ho hb hg hat))
         go_ret
         exact ⟨_, zE, zR HO106.out, zB⟩
       · rw [if_neg c12] at H
         exact absurd H (by simp)
     · rw [if_neg c11] at H
       have c11b0 : decide (0 ≤ x6_1) = false := decide_eq_false c11
       clear c11
       obtain rfl := Option.some.inj H
       go_wp2
       go_ret
       exact ⟨_, zE, zR HO_5.out, zB⟩
end Go.Proofs.Ytfmjckkgnieccaa.P
end
section
namespace Go.Proofs.Ytfmjckkgnieccaa.P
open Go.RowKit Go.Proofs.YtfmjckkgnieccaaW.PrintWords Go.Proofs.YtfmjckkgnieccaaW.PrintLast Go.Proofs.YtfmjckkgnieccaaW.PrintMore
attribute [local go_sem] max2_int min2_int max_two min_two max_three min_three max_four min_four   -- for this text's walks alone
set_option linter.unusedVariables false
set_option linter.unusedSimpArgs false
mutual
def spec_SpreadsOf.l0 : Nat → List Int → List (List Int) → Int → Int → Option ((List (List Int)) × Int)
  | 0, _, _, _, _ => none
  | k + 1, x0, x6, x22, x23 => if x23 < x22 then ((spec_l01Waits.f k x0 x23).bind fun t108 => (if 0 < (t108.length : Int) then (spec_SpreadsOf.l1 k x0 x6 t108 (rd t108 0) (rd t108 0) x22 x23 (t108.length : Int) 0) else (none))) else (some (x6, 0))
def spec_SpreadsOf.l1 : Nat → List Int → List (List Int) → List Int → Int → Int → Int → Int → Int → Int → Option ((List (List Int)) × Int)
  | 0, _, _, _, _, _, _, _, _, _ => none
  | k + 1, x0, x6, x8, x9, x10, x22, x23, x36, x37 => if x37 < x36 then (if 0 ≤ x37 then (if x37 < (x8.length : Int) then (spec_SpreadsOf.l1 k x0 x6 x8 (mn x9 (rd x8 x37)) (mx x10 (rd x8 x37)) x22 x23 x36 (wrap64 (x37 + 1))) else (none)) else (none)) else (if x6.length < 5864062014805 then (spec_SpreadsOf.l0 k x0 (x6 ++ [(([x9, x10] : List Int))]) x22 (wrap64 (x23 + 1))) else (none))
end
def spec_SpreadsOf.f (k : Nat) (l0 : List Int) : Option ((List (List Int)) × Int) := (spec_l07Given.f k l0).bind fun bt101 => (if bt101.2 = 0 then (spec_SpreadsOf.l0 k l0 (([] : List (List Int))) (bt101.1.length : Int) 0) else (some (([] : List (List Int)), bt101.2)))
theorem spec_SpreadsOf.mono_l : ∀ k, (∀ y0 y1 y2 y3, LeO (spec_SpreadsOf.l0 k y0 y1 y2 y3) (spec_SpreadsOf.l0 (k + 1) y0 y1 y2 y3)) ∧ (∀ y0 y1 y2 y3 y4 y5 y6 y7 y8, LeO (spec_SpreadsOf.l1 k y0 y1 y2 y3 y4 y5 y6 y7 y8) (spec_SpreadsOf.l1 (k + 1) y0 y1 y2 y3 y4 y5 y6 y7 y8))
  | 0 => ⟨fun _ _ _ _ r h => by simp [spec_SpreadsOf.l0] at h, fun _ _ _ _ _ _ _ _ _ r h => by simp [spec_SpreadsOf.l1] at h⟩
  | k + 1 => by
    obtain ⟨ih0, ih1⟩ := spec_SpreadsOf.mono_l k
    refine ⟨?_, ?_⟩ <;> intros <;> (first | unfold spec_SpreadsOf.l0 | unfold spec_SpreadsOf.l1) <;> repeat' first | (with_reducible exact ih0 _ _ _ _) | (with_reducible exact ih1 _ _ _ _ _ _ _ _ _) | (with_reducible exact spec_l01Waits.mono _ _ _) | (with_reducible exact spec_l07Given.mono _ _) | (with_reducible exact LeO.refl _) | (with_reducible exact LeO.none _) | (with_reducible refine LeO.ite ?_ ?_) | (with_reducible refine LeO.bind ?_ (fun _ => ?_)) | exact ih0 _ _ _ _ | exact ih1 _ _ _ _ _ _ _ _ _ | exact spec_l01Waits.mono _ _ _ | exact spec_l07Given.mono _ _ | exact LeO.none _ | refine LeO.ite ?_ ?_ | refine LeO.bind ?_ (fun _ => ?_)
theorem spec_SpreadsOf.mono : ∀ a0 k, LeO (spec_SpreadsOf.f k a0) (spec_SpreadsOf.f (k + 1) a0) := by
  intro a0 k
  obtain ⟨ih0, ih1⟩ := spec_SpreadsOf.mono_l k
  unfold spec_SpreadsOf.f
  repeat' first | (with_reducible exact ih0 _ _ _ _) | (with_reducible exact ih1 _ _ _ _ _ _ _ _ _) | (with_reducible exact spec_l01Waits.mono _ _ _) | (with_reducible exact spec_l07Given.mono _ _) | (with_reducible exact LeO.refl _) | (with_reducible exact LeO.none _) | (with_reducible refine LeO.ite ?_ ?_) | (with_reducible refine LeO.bind ?_ (fun _ => ?_)) | exact ih0 _ _ _ _ | exact ih1 _ _ _ _ _ _ _ _ _ | exact spec_l01Waits.mono _ _ _ | exact spec_l07Given.mono _ _ | exact LeO.none _ | refine LeO.ite ?_ ?_ | refine LeO.bind ?_ (fun _ => ?_)
set_option maxHeartbeats 8000000 in
set_option maxRecDepth 100000 in
theorem spec_SpreadsOf.calls (k : Nat) (A0 : Option Addr) (c0 : Nat) (l0 : List Int) (r1 : List (List Int)) (r2 : Int) (w : World) (hr0 : Kd.C (Kd.int .i64) w A0 l0.length l0) (hc0 : l0.length ≤ c0) (h : spec_SpreadsOf.f k l0 = some (r1, r2)) :
    Calls Try.prog 18 #[.slice A0 l0.length c0] w fun e w' => ∃ v0_ : Value, e = .returned (.tuple #[v0_, .int .i64 r2]) ∧ Kd.S (Kd.slice 2 (Kd.int .i64)) 24 w' w.heap.size (fun _ => True) v0_ r1 ∧ Below w.heap.size w w' := by
 have HR0 := Aside0.mk hr0
 have HC0 := Aside0.mk hc0
 clear hr0 hc0
 have HB := Aside0.mk (Below.refl w.heap.size w)
 have H : ((spec_l07Given.f k l0).bind fun bt101 => (if bt101.2 = 0 then (spec_SpreadsOf.l0 k l0 (([] : List (List Int))) (bt101.1.length : Int) 0) else (some (([] : List (List Int)), bt101.2)))) = some (r1, r2) := h
 clear h
 replace H := Option.bind_eq_some_iff.mp H
 obtain ⟨⟨t101, t102⟩, A20, H⟩ := H
 replace H : (if t102 = 0 then (spec_SpreadsOf.l0 k l0 (([] : List (List Int))) (t101.length : Int) 0) else (some (([] : List (List Int)), t102))) = some (r1, r2) := H
 have A2 := Aside0.mk A20
 clear A20
 by_cases c3 : t102 = 0
 ·
  rw [if_pos c3] at H
  have c3b0 : (t102 == 0) = true := beq_iff_eq.mpr c3
  have c3b1 : (t102 != 0) = false := bne_eq_false_iff_eq.mpr c3
  clear c3
  obtain ⟨y105, hy105⟩ : ∃ y_ : List (List Int), y_ = (([] : List (List Int))) := ⟨_, rfl⟩
  replace H : (spec_SpreadsOf.l0 k l0 y105 (t101.length : Int) 0) = some (r1, r2) := zH hy105
  have Ny105 := Aside0.mk hy105
  clear hy105
  have H' := Aside0.mk H
  clear H
  go_enter Try.func18, Try.ntmps18
  go_wp2_with (first | (go_at_call 31; (with_reducible refine (spec_l07Given.calls k _ _ l0 t101 t102 _ ?side1 ?side2 A2.out).mono ?_); (case side1 => exact zC HR0.out); (case side2 => exact HC0.out); rintro e w4 ⟨v103, rfl, ho0, hb⟩; have n_ := y2 (Kd.R_lower ho0 (below_size (zB))) (below_step (zB) hb); clear HB; obtain ⟨HO104, HB⟩ := n_; (try clear hb); (try clear hb2); (try clear hk); (try clear hi); (try clear ho0)) | ((with_reducible refine gate_dst (N := 20) rfl ?_); refine Kd.S_lit (Kd.slice 2 (Kd.int .i64)) _ 24 ?hg (N := 20) ?hd (xs := ([] : List (List Int))) (inner := []) (ok := fun _ => True) (okp := fun _ => True) ?hr ?hp (fun _ hk => hk) trivial (Below.refl _ _) (Nat.le_refl _) (by simp) ?_; (case hd => rfl); (case hg => rfl); (case hr => first | (go_simp; done) | (go_simp; rfl)); (case hp => exact (Reps.none _ _)); intro v106 w5 ho6 hb hg_ hnew_; clear hg_ hnew_; (first | rw [← Ny105.out] at ho6 | (simp only [Int.reduceToNat] at ho6; rw [← Ny105.out] at ho6)); have n_ := y3 (Kd.R_below (zR HO104.out) hb) (Kd.S_lower (Kd.S_new' ho6 (Kd.R_lt (zR HO104.out))) (below_size (zB))) (below_step (zB) hb); clear HO104 HB; obtain ⟨HO104, HO107, HB⟩ := n_; clear hb ho6; obtain ⟨Ao7, co7, eo7⟩ := Kd.R_slice HO104.out; subst eo7))
  repeat (go_quiet (first | (go_at_call 31; (with_reducible refine (spec_l07Given.calls k _ _ l0 t101 t102 _ ?side1 ?side2 A2.out).mono ?_); (case side1 => exact zC HR0.out); (case side2 => exact HC0.out); rintro e w4 ⟨v103, rfl, ho0, hb⟩; have n_ := y2 (Kd.R_lower ho0 (below_size (zB))) (below_step (zB) hb); clear HB; obtain ⟨HO104, HB⟩ := n_; (try clear hb); (try clear hb2); (try clear hk); (try clear hi); (try clear ho0)) | ((with_reducible refine gate_dst (N := 20) rfl ?_); refine Kd.S_lit (Kd.slice 2 (Kd.int .i64)) _ 24 ?hg (N := 20) ?hd (xs := ([] : List (List Int))) (inner := []) (ok := fun _ => True) (okp := fun _ => True) ?hr ?hp (fun _ hk => hk) trivial (Below.refl _ _) (Nat.le_refl _) (by simp) ?_; (case hd => rfl); (case hg => rfl); (case hr => first | (go_simp; done) | (go_simp; rfl)); (case hp => exact (Reps.none _ _)); intro v106 w5 ho6 hb hg_ hnew_; clear hg_ hnew_; (first | rw [← Ny105.out] at ho6 | (simp only [Int.reduceToNat] at ho6; rw [← Ny105.out] at ho6)); have n_ := y3 (Kd.R_below (zR HO104.out) hb) (Kd.S_lower (Kd.S_new' ho6 (Kd.R_lt (zR HO104.out))) (below_size (zB))) (below_step (zB) hb); clear HO104 HB; obtain ⟨HO104, HO107, HB⟩ := n_; clear hb ho6; obtain ⟨Ao7, co7, eo7⟩ := Kd.R_slice HO104.out; subst eo7)); try go_wp2_with (first | (go_at_call 31; (with_reducible refine (spec_l07Given.calls k _ _ l0 t101 t102 _ ?side1 ?side2 A2.out).mono ?_); (case side1 => exact zC HR0.out); (case side2 => exact HC0.out); rintro e w4 ⟨v103, rfl, ho0, hb⟩; have n_ := y2 (Kd.R_lower ho0 (below_size (zB))) (below_step (zB) hb); clear HB; obtain ⟨HO104, HB⟩ := n_; (try clear hb); (try clear hb2); (try clear hk); (try clear hi); (try clear ho0)) | ((with_reducible refine gate_dst (N := 20) rfl ?_); refine Kd.S_lit (Kd.slice 2 (Kd.int .i64)) _ 24 ?hg (N := 20) ?hd (xs := ([] : List (List Int))) (inner := []) (ok := fun _ => True) (okp := fun _ => True) ?hr ?hp (fun _ hk => hk) trivial (Below.refl _ _) (Nat.le_refl _) (by simp) ?_; (case hd => rfl); (case hg => rfl); (case hr => first | (go_simp; done) | (go_simp; rfl)); (case hp => exact (Reps.none _ _)); intro v106 w5 ho6 hb hg_ hnew_; clear hg_ hnew_; (first | rw [← Ny105.out] at ho6 | (simp only [Int.reduceToNat] at ho6; rw [← Ny105.out] at ho6)); have n_ := y3 (Kd.R_below (zR HO104.out) hb) (Kd.S_lower (Kd.S_new' ho6 (Kd.R_lt (zR HO104.out))) (below_size (zB))) (below_step (zB) hb); clear HO104 HB; obtain ⟨HO104, HO107, HB⟩ := n_; clear hb ho6; obtain ⟨Ao7, co7, eo7⟩ := Kd.R_slice HO104.out; subst eo7)))
  go_loopg [6, 23] k (fun kq v6 v23 w' => ∃ (x6_1 : List (List Int)) (x23_1 : Int), v23 = .int .i64 x23_1 ∧ Aside0 (spec_SpreadsOf.l0 kq l0 x6_1 (t101.length : Int) x23_1 = some (r1, r2)) ∧ Aside0 (kq ≤ k) ∧ Aside0 (Kd.S (Kd.slice 2 (Kd.int .i64)) 24 w' w.heap.size (fun _ => True) v6 x6_1) ∧ Aside0 (Below w.heap.size w w'))
  case atStart => exact ⟨(y105), (0), zF, H', ⟨Nat.le_refl _⟩, ⟨by (with_reducible repeat (first | apply Kd.S_alloc | apply Kd.S_drewN | apply Kd.S_drew)); exact Kd.S_mono HO107.out (fun _ hk => trivial)⟩, ⟨zB⟩⟩
  clear H'
  try clear c3
  try clear c3b0
  try clear c3b1
  obtain ⟨x6_1, x23_1, rfl, HA, HK1, HO_6, HB⟩ := hrel
  cases gk with
  | zero => exact absurd HA.out (by simp [spec_SpreadsOf.l0])
  | succ k1 =>
    have H := HA.out
    clear HA
    simp only [spec_SpreadsOf.l0] at H
    by_cases c8 : x23_1 < (t101.length : Int)
    · rw [if_pos c8] at H
      have c8b0 : decide (x23_1 < (t101.length : Int)) = true := decide_eq_true c8
      clear c8
      replace H := Option.bind_eq_some_iff.mp H
      obtain ⟨t108, A90, H⟩ := H
      replace H : (if 0 < (t108.length : Int) then (spec_SpreadsOf.l1 k1 l0 x6_1 t108 (rd t108 0) (rd t108 0) (t101.length : Int) x23_1 (t108.length : Int) 0) else (none)) = some (r1, r2) := H
      have A9 := Aside0.mk A90
      clear A90
      by_cases c10 : 0 < (t108.length : Int)
      · rw [if_pos c10] at H
        have c10b0 : decide (0 < (t108.length : Int)) = true := decide_eq_true c10
        have c10b1 : decide (0 < t108.length) = true := decide_eq_true (by omega)
        clear c10
        have H' := Aside0.mk H
        clear H
        go_wp2_with (first | (go_at_call 47; (with_reducible refine (spec_l01Waits.calls k1 _ _ l0 x23_1 t108 _ ?side1 ?side2 A9.out).mono ?_); (case side1 => exact zC (Kd.C_below HR0.out HB.out)); (case side2 => exact HC0.out); rintro e w11 ⟨v109, rfl, ho0, hb⟩; have n_ := y3 (Kd.S_elder' (by (with_reducible repeat (first | apply Kd.S_alloc | apply Kd.S_drewN | apply Kd.S_drew)); exact HO_6.out) (Kd.R_base ho0) hb) (Kd.R_lower ho0 (below_size (zB))) (below_step (zB) hb); clear HO_6 HB; obtain ⟨HO_6, HO110, HB⟩ := n_; (try clear hb); (try clear hb2); (try clear hk); (try clear hi); (try clear ho0); obtain ⟨Ao12, co12, eo12⟩ := Kd.R_slice HO110.out; subst eo12; have p111 : 0 ≤ (0 : Int) := (by omega); have q111 : 0 < (t108.length : Int) := zD; obtain ⟨ad111, e111, hx111_0⟩ := Kd.at_int (Kd.R_reads' HO110.out).2.2 0 p111 q111; cases e111; have qi111 : (0 < t108.length) = True := eq_true (by omega); (try rw [show ((0 : Int)).toNat = 0 from rfl] at hx111_0); (try rw [Addr.add_zero'] at hx111_0); replace p111 := eq_true p111; replace q111 := eq_true q111; have p112 : 0 ≤ (0 : Int) := (by omega); have q112 : 0 < (t108.length : Int) := zD; obtain ⟨ad112, e112, hx112_0⟩ := Kd.at_int (Kd.R_reads' HO110.out).2.2 0 p112 q112; obtain rfl : ad111 = ad112 := (by injection e112); have qi112 : (0 < t108.length) = True := eq_true (by omega); (try rw [show ((0 : Int)).toNat = 0 from rfl] at hx112_0); (try rw [Addr.add_zero'] at hx112_0); replace p112 := eq_true p112; replace q112 := eq_true q112))
        repeat (go_quiet (first | (go_at_call 47; (with_reducible refine (spec_l01Waits.calls k1 _ _ l0 x23_1 t108 _ ?side1 ?side2 A9.out).mono ?_); (case side1 => exact zC (Kd.C_below HR0.out HB.out)); (case side2 => exact HC0.out); rintro e w11 ⟨v109, rfl, ho0, hb⟩; have n_ := y3 (Kd.S_elder' (by (with_reducible repeat (first | apply Kd.S_alloc | apply Kd.S_drewN | apply Kd.S_drew)); exact HO_6.out) (Kd.R_base ho0) hb) (Kd.R_lower ho0 (below_size (zB))) (below_step (zB) hb); clear HO_6 HB; obtain ⟨HO_6, HO110, HB⟩ := n_; (try clear hb); (try clear hb2); (try clear hk); (try clear hi); (try clear ho0); obtain ⟨Ao12, co12, eo12⟩ := Kd.R_slice HO110.out; subst eo12; have p111 : 0 ≤ (0 : Int) := (by omega); have q111 : 0 < (t108.length : Int) := zD; obtain ⟨ad111, e111, hx111_0⟩ := Kd.at_int (Kd.R_reads' HO110.out).2.2 0 p111 q111; cases e111; have qi111 : (0 < t108.length) = True := eq_true (by omega); (try rw [show ((0 : Int)).toNat = 0 from rfl] at hx111_0); (try rw [Addr.add_zero'] at hx111_0); replace p111 := eq_true p111; replace q111 := eq_true q111; have p112 : 0 ≤ (0 : Int) := (by omega); have q112 : 0 < (t108.length : Int) := zD; obtain ⟨ad112, e112, hx112_0⟩ := Kd.at_int (Kd.R_reads' HO110.out).2.2 0 p112 q112; obtain rfl : ad111 = ad112 := (by injection e112); have qi112 : (0 < t108.length) = True := eq_true (by omega); (try rw [show ((0 : Int)).toNat = 0 from rfl] at hx112_0); (try rw [Addr.add_zero'] at hx112_0); replace p112 := eq_true p112; replace q112 := eq_true q112)); try go_wp2_with (first | (go_at_call 47; (with_reducible refine (spec_l01Waits.calls k1 _ _ l0 x23_1 t108 _ ?side1 ?side2 A9.out).mono ?_); (case side1 => exact zC (Kd.C_below HR0.out HB.out)); (case side2 => exact HC0.out); rintro e w11 ⟨v109, rfl, ho0, hb⟩; have n_ := y3 (Kd.S_elder' (by (with_reducible repeat (first | apply Kd.S_alloc | apply Kd.S_drewN | apply Kd.S_drew)); exact HO_6.out) (Kd.R_base ho0) hb) (Kd.R_lower ho0 (below_size (zB))) (below_step (zB) hb); clear HO_6 HB; obtain ⟨HO_6, HO110, HB⟩ := n_; (try clear hb); (try clear hb2); (try clear hk); (try clear hi); (try clear ho0); obtain ⟨Ao12, co12, eo12⟩ := Kd.R_slice HO110.out; subst eo12; have p111 : 0 ≤ (0 : Int) := (by omega); have q111 : 0 < (t108.length : Int) := zD; obtain ⟨ad111, e111, hx111_0⟩ := Kd.at_int (Kd.R_reads' HO110.out).2.2 0 p111 q111; cases e111; have qi111 : (0 < t108.length) = True := eq_true (by omega); (try rw [show ((0 : Int)).toNat = 0 from rfl] at hx111_0); (try rw [Addr.add_zero'] at hx111_0); replace p111 := eq_true p111; replace q111 := eq_true q111; have p112 : 0 ≤ (0 : Int) := (by omega); have q112 : 0 < (t108.length : Int) := zD; obtain ⟨ad112, e112, hx112_0⟩ := Kd.at_int (Kd.R_reads' HO110.out).2.2 0 p112 q112; obtain rfl : ad111 = ad112 := (by injection e112); have qi112 : (0 < t108.length) = True := eq_true (by omega); (try rw [show ((0 : Int)).toNat = 0 from rfl] at hx112_0); (try rw [Addr.add_zero'] at hx112_0); replace p112 := eq_true p112; replace q112 := eq_true q112)))
        go_loopg [9, 10, 37] k1 (fun kq v9 v10 v37 w' => ∃ (x9_2 : Int) (x10_2 : Int) (x37_2 : Int), v9 = .int .i64 x9_2 ∧ v10 = .int .i64 x10_2 ∧ v37 = .int .i64 x37_2 ∧ Aside0 (spec_SpreadsOf.l1 kq l0 x6_1 t108 x9_2 x10_2 (t101.length : Int) x23_1 (t108.length : Int) x37_2 = some (r1, r2)) ∧ Aside0 (kq ≤ k1) ∧ Aside0 (Kd.S (Kd.slice 2 (Kd.int .i64)) 24 w' w.heap.size (fun k_ => some k_ ≠ ((.slice (some ad111) t108.length co12) : Value).ownBlock) u6 x6_1) ∧ Aside0 (Kd.R (Kd.int .i64) 2 w' w.heap.size (fun _ => True) (.slice (some ad111) t108.length co12) t108) ∧ Aside0 (Below w.heap.size w w'))
        case atStart => exact ⟨(rd t108 0), (rd t108 0), (0), zF, zF, zF, H', ⟨Nat.le_refl _⟩, ⟨by (with_reducible repeat (first | apply Kd.S_alloc | apply Kd.S_drewN | apply Kd.S_drew)); exact Kd.S_mono HO_6.out (fun _ hk => hk.2)⟩, ⟨zR HO110.out⟩, ⟨zB⟩⟩
        case round =>
          clear H'
          try clear c3
          try clear c3b0
          try clear c3b1
          try clear c8
          try clear c8b0
          try clear c10
          try clear c10b0
          try clear c10b1
          try clear hx111_0
          try clear hx112_0
          try clear p111
          try clear p112
          try clear q111
          try clear q112
          obtain ⟨x9_2, x10_2, x37_2, rfl, rfl, rfl, HA, HK2, HO_6, HO_8, HB⟩ := hrel
          cases gk with
          | zero => exact absurd HA.out (by simp [spec_SpreadsOf.l1])
          | succ k2 =>
            have H := HA.out
            clear HA
            simp only [spec_SpreadsOf.l1] at H
            by_cases c13 : x37_2 < (t108.length : Int)
            · rw [if_pos c13] at H
              have c13b0 : decide (x37_2 < (t108.length : Int)) = true := decide_eq_true c13
              clear c13
              by_cases c14 : 0 ≤ x37_2
              · rw [if_pos c14] at H
                have c14b0 : decide (0 ≤ x37_2) = true := decide_eq_true c14
                clear c14
                by_cases c15 : x37_2 < (t108.length : Int)
                · rw [if_pos c15] at H
                  have c15b0 : decide (x37_2 < (t108.length : Int)) = true := decide_eq_true c15
                  clear c15
                  obtain ⟨ji16, hji16⟩ : ∃ j_ : Int, (mn x9_2 (rd t108 x37_2)) = j_ := ⟨_, rfl⟩
                  replace H : (spec_SpreadsOf.l1 k2 l0 x6_1 t108 ji16 (mx x10_2 (rd t108 x37_2)) (t101.length : Int) x23_1 (t108.length : Int) (wrap64 (x37_2 + 1))) = some (r1, r2) := by first | (rw [hji16] at H; exact H) | (simp only [hji16] at H ⊢; exact H)
                  have hji16_ : (if (rd t108 x37_2) < x9_2 then (rd t108 x37_2) else x9_2) = ji16 := hji16
                  obtain ⟨ji17, hji17⟩ : ∃ j_ : Int, (mx x10_2 (rd t108 x37_2)) = j_ := ⟨_, rfl⟩
                  replace H : (spec_SpreadsOf.l1 k2 l0 x6_1 t108 ji16 ji17 (t101.length : Int) x23_1 (t108.length : Int) (wrap64 (x37_2 + 1))) = some (r1, r2) := by first | (rw [hji17] at H; exact H) | (simp only [hji17] at H ⊢; exact H)
                  have hji17_ : (if x10_2 < (rd t108 x37_2) then (rd t108 x37_2) else x10_2) = ji17 := hji17
                  have H' := Aside0.mk H
                  clear H
                  have p113 : 0 ≤ (x37_2 : Int) := zD
                  have q113 : x37_2 < (t108.length : Int) := zD
                  obtain ⟨ad113, e113, hx113_0⟩ := Kd.at_int (Kd.R_reads' HO_8.out).2.2 x37_2 p113 q113
                  obtain rfl : ad111 = ad113 := (by injection e113)
                  replace p113 := eq_true p113
                  replace q113 := eq_true q113
                  have p114 : 0 ≤ (x37_2 : Int) := zD
                  have q114 : x37_2 < (t108.length : Int) := zD
                  obtain ⟨ad114, e114, hx114_0⟩ := Kd.at_int (Kd.R_reads' HO_8.out).2.2 x37_2 p114 q114
                  obtain rfl : ad111 = ad114 := (by injection e114)
                  replace p114 := eq_true p114
                  replace q114 := eq_true q114
                  go_wp2
                  repeat (go_quiet (fail); try go_wp2)
                  go_roundg k2
                  case measure => have := HK1.out; have := HK2.out; omega
                  case rel => exact ⟨(ji16), (ji17), (wrap64 (x37_2 + 1)), (by first | rfl | (simp; done) | (simp only [← hji16] <;> (first | rfl | simp)) | (simp [*]; done)), (by first | rfl | (simp; done) | (simp only [← hji17] <;> (first | rfl | simp)) | (simp [*]; done)), zF, H', ⟨by have := HK1.out; have := HK2.out; omega⟩, ⟨by (with_reducible repeat (first | apply Kd.S_alloc | apply Kd.S_drewN | apply Kd.S_drew)); exact HO_6.out⟩, ⟨zR HO_8.out⟩, ⟨zB⟩⟩
                · rw [if_neg c15] at H
                  exact absurd H (by simp)
              · rw [if_neg c14] at H
                exact absurd H (by simp)
            · rw [if_neg c13] at H
              have c13b0 : decide (x37_2 < (t108.length : Int)) = false := decide_eq_false c13
              clear c13
              obtain ⟨y115, hy115⟩ : ∃ y_ : List Int, y_ = (([x9_2, x10_2] : List Int)) := ⟨_, rfl⟩
              replace H : (if x6_1.length < 5864062014805 then (spec_SpreadsOf.l0 k2 l0 (x6_1 ++ [y115]) (t101.length : Int) (wrap64 (x23_1 + 1))) else (none)) = some (r1, r2) := zH hy115
              have Ny115 := Aside0.mk hy115
              clear hy115
              by_cases c18 : x6_1.length < 5864062014805
              · rw [if_pos c18] at H
                have LMc18 := Aside0.mk c18
                clear c18
                obtain ⟨y118, hy118⟩ : ∃ y_ : List (List Int), y_ = (x6_1 ++ [y115]) := ⟨_, rfl⟩
                replace H : (spec_SpreadsOf.l0 k2 l0 y118 (t101.length : Int) (wrap64 (x23_1 + 1))) = some (r1, r2) := zH hy118
                have Ny118 := Aside0.mk hy118
                clear hy118
                have H' := Aside0.mk H
                clear H
                go_wp2_with (first | ((with_reducible refine gate_dst (N := 56) rfl ?_); refine Kd.R_lit (Kd.int .i64) _ 2 ?hg (N := 56) ?hd (xs := ([x9_2, x10_2] : List Int)) (inner := [.int .i64 x9_2, .int .i64 x10_2]) (ok := fun _ => True) (okp := fun _ => True) ?hr ?hp (fun _ hk => hk) trivial (Below.refl _ _) (Nat.le_refl _) (by simp) ?_; (case hd => rfl); (case hg => rfl); (case hr => first | (go_simp; done) | (go_simp; rfl)); (case hp => exact (Reps.one (show Kd.M (Kd.int .i64) _ _ _ x9_2 [.int .i64 x9_2] from rfl) (Reps.one (show Kd.M (Kd.int .i64) _ _ _ x10_2 [.int .i64 x10_2] from rfl) (Reps.none _ _)))); intro v116 w19 ho20 hb hg_ hnew_; clear hg_ hnew_; (first | rw [← Ny115.out] at ho20 | (simp only [Int.reduceToNat] at ho20; rw [← Ny115.out] at ho20)); have n_ := y4 (Kd.S_elder' (by (with_reducible repeat (first | apply Kd.S_alloc | apply Kd.S_drewN | apply Kd.S_drew)); exact HO_6.out) (Kd.R_base ho20) hb) (Kd.R_elder' (zR HO_8.out) (Kd.R_base ho20) hb) (Kd.R_lower (Kd.R_new' ho20 (Kd.R_lt (zR HO_8.out))) (below_size (zB))) (below_step (zB) hb); clear HO_6 HO_8 HB; obtain ⟨HO_6, HO_8, HO117, HB⟩ := n_; clear hb ho20; obtain ⟨Ao22, co22, eo22⟩ := Kd.R_slice HO117.out; subst eo22) | ((with_reducible refine gate_builtin (b := .append) (xs := #[.tmp 53, .tmp 57]) rfl ?_); at_builtin; refine Kd.S_append (Kd.slice 2 (Kd.int .i64)) (w0 := w) w.heap.size rfl (.tmp 53) (.tmp 57) 36 24 (.slice none 0 0) 24 rfl Try.underlying36 info24 rfl (by decide) (by omega) u6 x6_1 y115 [.slice Ao22 y115.length co22] (fun k_ => some k_ ≠ (.slice (some ad111) t108.length co12 : Value).ownBlock) (fun k_ => some k_ = (.slice Ao22 y115.length co22 : Value).ownBlock) rfl rfl ?aP (fun k_ hk_ => ((Kd.R_mono (ok' := fun k_ => ((fun k_ => some k_ ≠ (.slice (some ad111) t108.length co12 : Value).ownBlock)) k_ ∧ some k_ ≠ (u6 : Value).ownBlock) (Kd.R_apart' (HO117.out) (Kd.S_typed HO_6.out) (by decide)) (fun k_ hk => ⟨hk.1.2, hk.2⟩))).1 k_ hk_.symm) ?aF ?aO ?aB ?aS ?aL ?_; (case aP => exact Kd.M_row (Kd.R_mono (Kd.R_tight rfl (Kd.R_mono (ok' := fun k_ => ((fun k_ => some k_ ≠ (.slice (some ad111) t108.length co12 : Value).ownBlock)) k_ ∧ some k_ ≠ (u6 : Value).ownBlock) (Kd.R_apart' (HO117.out) (Kd.S_typed HO_6.out) (by decide)) (fun k_ hk => ⟨hk.1.2, hk.2⟩))) (fun _ h_ => h_))); (case aB => exact (zB)); (case aF => exact (fun k_ hk => Kd.fresh' (Kd.R_lt (zR HO_8.out)) k_ hk)); (case aO => exact (by (with_reducible repeat (first | apply Kd.S_alloc | apply Kd.S_drewN | apply Kd.S_drew)); exact Kd.S_mono HO_6.out (fun k_ hk => ⟨hk.1, fun e_ => hk.2 e_⟩))); (case aS => exact (below_size (zB))); (case aL => have := LMc18.out; omega); intro v119 w21 ho hb hg hat; rw [← Ny118.out] at ho; have n_ := y3 (Kd.R_over' (zR HO_8.out) (Kd.S_typed (by (with_reducible repeat (first | apply Kd.S_alloc | apply Kd.S_drewN | apply Kd.S_drew)); exact HO_6.out)) (by decide) hg) (hb) (ho); clear HO_8 HB HO_6 HO117; obtain ⟨HO_8, HB, HO120⟩ := n_; clear ho hb hg hat))
                repeat (go_quiet (first | ((with_reducible refine gate_dst (N := 56) rfl ?_); refine Kd.R_lit (Kd.int .i64) _ 2 ?hg (N := 56) ?hd (xs := ([x9_2, x10_2] : List Int)) (inner := [.int .i64 x9_2, .int .i64 x10_2]) (ok := fun _ => True) (okp := fun _ => True) ?hr ?hp (fun _ hk => hk) trivial (Below.refl _ _) (Nat.le_refl _) (by simp) ?_; (case hd => rfl); (case hg => rfl); (case hr => first | (go_simp; done) | (go_simp; rfl)); (case hp => exact (Reps.one (show Kd.M (Kd.int .i64) _ _ _ x9_2 [.int .i64 x9_2] from rfl) (Reps.one (show Kd.M (Kd.int .i64) _ _ _ x10_2 [.int .i64 x10_2] from rfl) (Reps.none _ _)))); intro v116 w19 ho20 hb hg_ hnew_; clear hg_ hnew_; (first | rw [← Ny115.out] at ho20 | (simp only [Int.reduceToNat] at ho20; rw [← Ny115.out] at ho20)); have n_ := y4 (Kd.S_elder' (by (with_reducible repeat (first | apply Kd.S_alloc | apply Kd.S_drewN | apply Kd.S_drew)); exact HO_6.out) (Kd.R_base ho20) hb) (Kd.R_elder' (zR HO_8.out) (Kd.R_base ho20) hb) (Kd.R_lower (Kd.R_new' ho20 (Kd.R_lt (zR HO_8.out))) (below_size (zB))) (below_step (zB) hb); clear HO_6 HO_8 HB; obtain ⟨HO_6, HO_8, HO117, HB⟩ := n_; clear hb ho20; obtain ⟨Ao22, co22, eo22⟩ := Kd.R_slice HO117.out; subst eo22) | ((with_reducible refine gate_builtin (b := .append) (xs := #[.tmp 53, .tmp 57]) rfl ?_); at_builtin; refine Kd.S_append (Kd.slice 2 (Kd.int .i64)) (w0 := w) w.heap.size rfl (.tmp 53) (.tmp 57) 36 24 (.slice none 0 0) 24 rfl Try.underlying36 info24 rfl (by decide) (by omega) u6 x6_1 y115 [.slice Ao22 y115.length co22] (fun k_ => some k_ ≠ (.slice (some ad111) t108.length co12 : Value).ownBlock) (fun k_ => some k_ = (.slice Ao22 y115.length co22 : Value).ownBlock) rfl rfl ?aP (fun k_ hk_ => ((Kd.R_mono (ok' := fun k_ => ((fun k_ => some k_ ≠ (.slice (some ad111) t108.length co12 : Value).ownBlock)) k_ ∧ some k_ ≠ (u6 : Value).ownBlock) (Kd.R_apart' (HO117.out) (Kd.S_typed HO_6.out) (by decide)) (fun k_ hk => ⟨hk.1.2, hk.2⟩))).1 k_ hk_.symm) ?aF ?aO ?aB ?aS ?aL ?_; (case aP => exact Kd.M_row (Kd.R_mono (Kd.R_tight rfl (Kd.R_mono (ok' := fun k_ => ((fun k_ => some k_ ≠ (.slice (some ad111) t108.length co12 : Value).ownBlock)) k_ ∧ some k_ ≠ (u6 : Value).ownBlock) (Kd.R_apart' (HO117.out) (Kd.S_typed HO_6.out) (by decide)) (fun k_ hk => ⟨hk.1.2, hk.2⟩))) (fun _ h_ => h_))); (case aB => exact (zB)); (case aF => exact (fun k_ hk => Kd.fresh' (Kd.R_lt (zR HO_8.out)) k_ hk)); (case aO => exact (by (with_reducible repeat (first | apply Kd.S_alloc | apply Kd.S_drewN | apply Kd.S_drew)); exact Kd.S_mono HO_6.out (fun k_ hk => ⟨hk.1, fun e_ => hk.2 e_⟩))); (case aS => exact (below_size (zB))); (case aL => have := LMc18.out; omega); intro v119 w21 ho hb hg hat; rw [← Ny118.out] at ho; have n_ := y3 (Kd.R_over' (zR HO_8.out) (Kd.S_typed (by (with_reducible repeat (first | apply Kd.S_alloc | apply Kd.S_drewN | apply Kd.S_drew)); exact HO_6.out)) (by decide) hg) (hb) (ho); clear HO_8 HB HO_6 HO117; obtain ⟨HO_8, HB, HO120⟩ := n_; clear ho hb hg hat)); try go_wp2_with (first | ((with_reducible refine gate_dst (N := 56) rfl ?_); refine Kd.R_lit (Kd.int .i64) _ 2 ?hg (N := 56) ?hd (xs := ([x9_2, x10_2] : List Int)) (inner := [.int .i64 x9_2, .int .i64 x10_2]) (ok := fun _ => True) (okp := fun _ => True) ?hr ?hp (fun _ hk => hk) trivial (Below.refl _ _) (Nat.le_refl _) (by simp) ?_; (case hd => rfl); (case hg => rfl); (case hr => first | (go_simp; done) | (go_simp; rfl)); (case hp => exact (Reps.one (show Kd.M (Kd.int .i64) _ _ _ x9_2 [.int .i64 x9_2] from rfl) (Reps.one (show Kd.M (Kd.int .i64) _ _ _ x10_2 [.int .i64 x10_2] from rfl) (Reps.none _ _)))); intro v116 w19 ho20 hb hg_ hnew_; clear hg_ hnew_; (first | rw [← Ny115.out] at ho20 | (simp only [Int.reduceToNat] at ho20; rw [← Ny115.out] at ho20)); have n_ := y4 (Kd.S_elder' (by (with_reducible repeat (first | apply Kd.S_alloc | apply Kd.S_drewN | apply Kd.S_drew)); exact HO_6.out) (Kd.R_base ho20) hb) (Kd.R_elder' (zR HO_8.out) (Kd.R_base ho20) hb) (Kd.R_lower (Kd.R_new' ho20 (Kd.R_lt (zR HO_8.out))) (below_size (zB))) (below_step (zB) hb); clear HO_6 HO_8 HB; obtain ⟨HO_6, HO_8, HO117, HB⟩ := n_; clear hb ho20; obtain ⟨Ao22, co22, eo22⟩ := Kd.R_slice HO117.out; subst eo22) | ((with_reducible refine gate_builtin (b := .append) (xs := #[.tmp 53, .tmp 57]) rfl ?_); at_builtin; refine Kd.S_append (Kd.slice 2 (Kd.int .i64)) (w0 := w) w.heap.size rfl (.tmp 53) (.tmp 57) 36 24 (.slice none 0 0) 24 rfl Try.underlying36 info24 rfl (by decide) (by omega) u6 x6_1 y115 [.slice Ao22 y115.length co22] (fun k_ => some k_ ≠ (.slice (some ad111) t108.length co12 : Value).ownBlock) (fun k_ => some k_ = (.slice Ao22 y115.length co22 : Value).ownBlock) rfl rfl ?aP (fun k_ hk_ => ((Kd.R_mono (ok' := fun k_ => ((fun k_ => some k_ ≠ (.slice (some ad111) t108.length co12 : Value).ownBlock)) k_ ∧ some k_ ≠ (u6 : Value).ownBlock) (Kd.R_apart' (HO117.out) (Kd.S_typed HO_6.out) (by decide)) (fun k_ hk => ⟨hk.1.2, hk.2⟩))).1 k_ hk_.symm) ?aF ?aO ?aB ?aS ?aL ?_; (case aP => exact Kd.M_row (Kd.R_mono (Kd.R_tight rfl (Kd.R_mono (ok' := fun k_ => ((fun k_ => some k_ ≠ (.slice (some ad111) t108.length co12 : Value).ownBlock)) k_ ∧ some k_ ≠ (u6 : Value).ownBlock) (Kd.R_apart' (HO117.out) (Kd.S_typed HO_6.out) (by decide)) (fun k_ hk => ⟨hk.1.2, hk.2⟩))) (fun _ h_ => h_))); (case aB => exact (zB)); (case aF => exact (fun k_ hk => Kd.fresh' (Kd.R_lt (zR HO_8.out)) k_ hk)); (case aO => exact (by (with_reducible repeat (first | apply Kd.S_alloc | apply Kd.S_drewN | apply Kd.S_drew)); exact Kd.S_mono HO_6.out (fun k_ hk => ⟨hk.1, fun e_ => hk.2 e_⟩))); (case aS => exact (below_size (zB))); (case aL => have := LMc18.out; omega); intro v119 w21 ho hb hg hat; rw [← Ny118.out] at ho; have n_ := y3 (Kd.R_over' (zR HO_8.out) (Kd.S_typed (by (with_reducible repeat (first | apply Kd.S_alloc | apply Kd.S_drewN | apply Kd.S_drew)); exact HO_6.out)) (by decide) hg) (hb) (ho); clear HO_8 HB HO_6 HO117; obtain ⟨HO_8, HB, HO120⟩ := n_; clear ho hb hg hat)))
                go_roundg k2
                case measure => have := HK1.out; have := HK2.out; omega
                case rel => exact ⟨(y118), (wrap64 (x23_1 + 1)), zF, H', ⟨by have := HK1.out; have := HK2.out; omega⟩, ⟨by (with_reducible repeat (first | apply Kd.S_alloc | apply Kd.S_drewN | apply Kd.S_drew)); exact Kd.S_mono HO120.out (fun _ hk => trivial)⟩, ⟨zB⟩⟩
              · rw [if_neg c18] at H
                exact absurd H (by simp)
      · rw [if_neg c10] at H
        exact absurd H (by simp)
    · rw [if_neg c8] at H
      have c8b0 : decide (x23_1 < (t101.length : Int)) = false := decide_eq_false c8
      clear c8
      simp only [Option.some.injEq, Prod.mk.injEq] at H
      obtain ⟨rfl, rfl⟩ := H
      go_wp2
      repeat (go_quiet (fail); try go_wp2)
      go_ret2
      exact ⟨_, zE, by (with_reducible repeat (first | apply Kd.S_alloc | apply Kd.S_drewN | apply Kd.S_drew)); exact HO_6.out, zB⟩
 rw [if_neg c3] at H
 have c3b0 : (t102 == 0) = false := beq_eq_false_iff_ne.mpr c3
 have c3b1 : (t102 != 0) = true := bne_iff_ne.mpr c3
 simp only [Option.some.injEq, Prod.mk.injEq] at H
 obtain ⟨rfl, rfl⟩ := H
 go_enter Try.func18, Try.ntmps18
 go_wp2_with (first | (go_at_call 31; (with_reducible refine (spec_l07Given.calls k _ _ l0 t101 t102 _ ?side1 ?side2 A2.out).mono ?_); (case side1 => exact zC HR0.out); (case side2 => exact HC0.out); rintro e w23 ⟨v103, rfl, ho0, hb⟩; have n_ := y2 (Kd.R_lower ho0 (below_size (zB))) (below_step (zB) hb); clear HB; obtain ⟨HO104, HB⟩ := n_; (try clear hb); (try clear hb2); (try clear hk); (try clear hi); (try clear ho0)))
 repeat (go_quiet (first | (go_at_call 31; (with_reducible refine (spec_l07Given.calls k _ _ l0 t101 t102 _ ?side1 ?side2 A2.out).mono ?_); (case side1 => exact zC HR0.out); (case side2 => exact HC0.out); rintro e w23 ⟨v103, rfl, ho0, hb⟩; have n_ := y2 (Kd.R_lower ho0 (below_size (zB))) (below_step (zB) hb); clear HB; obtain ⟨HO104, HB⟩ := n_; (try clear hb); (try clear hb2); (try clear hk); (try clear hi); (try clear ho0))); try go_wp2_with (first | (go_at_call 31; (with_reducible refine (spec_l07Given.calls k _ _ l0 t101 t102 _ ?side1 ?side2 A2.out).mono ?_); (case side1 => exact zC HR0.out); (case side2 => exact HC0.out); rintro e w23 ⟨v103, rfl, ho0, hb⟩; have n_ := y2 (Kd.R_lower ho0 (below_size (zB))) (below_step (zB) hb); clear HB; obtain ⟨HO104, HB⟩ := n_; (try clear hb); (try clear hb2); (try clear hk); (try clear hi); (try clear ho0))))
 go_ret2
 exact ⟨_, zE, by first | exact Kd.S_nil _ _ _ _ _ | exact Kd.N_nil _ _ _ _ _ | exact Kd.V_nil _ _ _ _ _ | exact Kd.Q_nil _ _ _ _ _ | exact Kd.R_nil _ _ _ _ _, zB⟩
end Go.Proofs.Ytfmjckkgnieccaa.P
end
section
namespace Go.Proofs.Ytfmjckkgnieccaa.P
open Go.RowKit Go.Proofs.YtfmjckkgnieccaaW.PrintWords Go.Proofs.YtfmjckkgnieccaaW.PrintLast Go.Proofs.YtfmjckkgnieccaaW.PrintMore
attribute [local go_sem] max2_int min2_int max_two min_two max_three min_three max_four min_four   -- for this text's walks alone
set_option linter.unusedVariables false
set_option linter.unusedSimpArgs false
mutual
def spec_l07Greatest.l0 : Nat → List (List Int) → Int → Int → Int → Option (Int)
  | 0, _, _, _, _ => none
  | k + 1, x5, x6, x13, x14 => if x14 < x13 then (if 0 ≤ x14 then (if x14 < (x5.length : Int) then (spec_l07Greatest.l1 k x5 x6 x14 x13 x14 ((rd_L2 x5 x14).length : Int) 0) else (none)) else (none)) else (some x6)
def spec_l07Greatest.l1 : Nat → List (List Int) → Int → Int → Int → Int → Int → Int → Option (Int)
  | 0, _, _, _, _, _, _, _ => none
  | k + 1, x5, x6, x7, x13, x14, x21, x22 => if x22 < x21 then (if 0 ≤ x7 then (if x7 < (x5.length : Int) then (if 0 ≤ x22 then (if x22 < ((rd_L2 x5 x7).length : Int) then (spec_l07Greatest.l1 k x5 (mx (mx x6 (rd (rd_L2 x5 x7) x22)) (wrap64 (-(rd (rd_L2 x5 x7) x22)))) x7 x13 x14 x21 (wrap64 (x22 + 1))) else (none)) else (none)) else (none)) else (none)) else (spec_l07Greatest.l0 k x5 x6 x13 (wrap64 (x14 + 1)))
end
def spec_l07Greatest.f (k : Nat) (l0 : List Int) (l1 : List Int) : Option (Int) := (spec_l07Differences.f k l0 l1).bind fun t101 => (spec_l07Greatest.l0 k t101 0 (t101.length : Int) 0)
theorem spec_l07Greatest.mono_l : ∀ k, (∀ y0 y1 y2 y3, LeO (spec_l07Greatest.l0 k y0 y1 y2 y3) (spec_l07Greatest.l0 (k + 1) y0 y1 y2 y3)) ∧ (∀ y0 y1 y2 y3 y4 y5 y6, LeO (spec_l07Greatest.l1 k y0 y1 y2 y3 y4 y5 y6) (spec_l07Greatest.l1 (k + 1) y0 y1 y2 y3 y4 y5 y6))
  | 0 => ⟨fun _ _ _ _ r h => by simp [spec_l07Greatest.l0] at h, fun _ _ _ _ _ _ _ r h => by simp [spec_l07Greatest.l1] at h⟩
  | k + 1 => by
    obtain ⟨ih0, ih1⟩ := spec_l07Greatest.mono_l k
    refine ⟨?_, ?_⟩ <;> intros <;> (first | unfold spec_l07Greatest.l0 | unfold spec_l07Greatest.l1) <;> repeat' first | (with_reducible exact ih0 _ _ _ _) | (with_reducible exact ih1 _ _ _ _ _ _ _) | (with_reducible exact spec_l07Differences.mono _ _ _) | (with_reducible exact LeO.refl _) | (with_reducible exact LeO.none _) | (with_reducible refine LeO.ite ?_ ?_) | (with_reducible refine LeO.bind ?_ (fun _ => ?_)) | exact ih0 _ _ _ _ | exact ih1 _ _ _ _ _ _ _ | exact spec_l07Differences.mono _ _ _ | exact LeO.none _ | refine LeO.ite ?_ ?_ | refine LeO.bind ?_ (fun _ => ?_)
theorem spec_l07Greatest.mono : ∀ a0 a1 k, LeO (spec_l07Greatest.f k a0 a1) (spec_l07Greatest.f (k + 1) a0 a1) := by
  intro a0 a1 k
  obtain ⟨ih0, ih1⟩ := spec_l07Greatest.mono_l k
  unfold spec_l07Greatest.f
  repeat' first | (with_reducible exact ih0 _ _ _ _) | (with_reducible exact ih1 _ _ _ _ _ _ _) | (with_reducible exact spec_l07Differences.mono _ _ _) | (with_reducible exact LeO.refl _) | (with_reducible exact LeO.none _) | (with_reducible refine LeO.ite ?_ ?_) | (with_reducible refine LeO.bind ?_ (fun _ => ?_)) | exact ih0 _ _ _ _ | exact ih1 _ _ _ _ _ _ _ | exact spec_l07Differences.mono _ _ _ | exact LeO.none _ | refine LeO.ite ?_ ?_ | refine LeO.bind ?_ (fun _ => ?_)
set_option maxHeartbeats 8000000 in
set_option maxRecDepth 100000 in
theorem spec_l07Greatest.calls (k : Nat) (A0 : Option Addr) (c0 : Nat) (l0 : List Int) (A1 : Option Addr) (c1 : Nat) (l1 : List Int) (r : Int) (w : World) (hr0 : Kd.C (Kd.int .i64) w A0 l0.length l0) (hc0 : l0.length ≤ c0) (hr1 : Kd.C (Kd.int .i64) w A1 l1.length l1) (hc1 : l1.length ≤ c1) (h : spec_l07Greatest.f k l0 l1 = some r) :
    Calls Try.prog 52 #[.slice A0 l0.length c0, .slice A1 l1.length c1] w fun e w' => e = .returned (.int .i64 r) ∧ Below w.heap.size w w' := by
 have HR0 := Aside0.mk hr0
 have HC0 := Aside0.mk hc0
 clear hr0 hc0
 have HR1 := Aside0.mk hr1
 have HC1 := Aside0.mk hc1
 clear hr1 hc1
 have HB := Aside0.mk (Below.refl w.heap.size w)
 have H : ((spec_l07Differences.f k l0 l1).bind fun t101 => (spec_l07Greatest.l0 k t101 0 (t101.length : Int) 0)) = some r := h
 clear h
 replace H := Option.bind_eq_some_iff.mp H
 obtain ⟨t101, A30, H⟩ := H
 replace H : (spec_l07Greatest.l0 k t101 0 (t101.length : Int) 0) = some r := H
 have A3 := Aside0.mk A30
 clear A30
 have H' := Aside0.mk H
 clear H
 go_enter Try.func52, Try.ntmps52
 go_wp2_with (first | (go_at_call 63; (with_reducible refine (spec_l07Differences.calls k _ _ l0 _ _ l1 t101 _ ?side1 ?side2 ?side3 ?side4 A3.out).mono ?_); (case side1 => exact zC HR0.out); (case side2 => exact HC0.out); (case side3 => exact zC HR1.out); (case side4 => exact HC1.out); rintro e w4 ⟨v102, rfl, ho0, hb⟩; have n_ := y2 (Kd.N_lower (Kd.N_mono (ok' := fun k_ => True) ho0 (fun k_ hk_ => trivial)) (below_size (zB))) (below_step (zB) hb); clear HB; obtain ⟨HO103, HB⟩ := n_; (try clear hb); (try clear hb2); (try clear hk); (try clear hi); (try clear ho0); obtain ⟨Ao5, co5, eo5⟩ := Kd.N_slice HO103.out; subst eo5))
 repeat (go_quiet (first | (go_at_call 63; (with_reducible refine (spec_l07Differences.calls k _ _ l0 _ _ l1 t101 _ ?side1 ?side2 ?side3 ?side4 A3.out).mono ?_); (case side1 => exact zC HR0.out); (case side2 => exact HC0.out); (case side3 => exact zC HR1.out); (case side4 => exact HC1.out); rintro e w4 ⟨v102, rfl, ho0, hb⟩; have n_ := y2 (Kd.N_lower (Kd.N_mono (ok' := fun k_ => True) ho0 (fun k_ hk_ => trivial)) (below_size (zB))) (below_step (zB) hb); clear HB; obtain ⟨HO103, HB⟩ := n_; (try clear hb); (try clear hb2); (try clear hk); (try clear hi); (try clear ho0); obtain ⟨Ao5, co5, eo5⟩ := Kd.N_slice HO103.out; subst eo5)); try go_wp2_with (first | (go_at_call 63; (with_reducible refine (spec_l07Differences.calls k _ _ l0 _ _ l1 t101 _ ?side1 ?side2 ?side3 ?side4 A3.out).mono ?_); (case side1 => exact zC HR0.out); (case side2 => exact HC0.out); (case side3 => exact zC HR1.out); (case side4 => exact HC1.out); rintro e w4 ⟨v102, rfl, ho0, hb⟩; have n_ := y2 (Kd.N_lower (Kd.N_mono (ok' := fun k_ => True) ho0 (fun k_ hk_ => trivial)) (below_size (zB))) (below_step (zB) hb); clear HB; obtain ⟨HO103, HB⟩ := n_; (try clear hb); (try clear hb2); (try clear hk); (try clear hi); (try clear ho0); obtain ⟨Ao5, co5, eo5⟩ := Kd.N_slice HO103.out; subst eo5)))
 go_loopg [6, 14] k (fun kq v6 v14 w' => ∃ (x6_1 : Int) (x14_1 : Int), v6 = .int .i64 x6_1 ∧ v14 = .int .i64 x14_1 ∧ Aside0 (spec_l07Greatest.l0 kq t101 x6_1 (t101.length : Int) x14_1 = some r) ∧ Aside0 (kq ≤ k) ∧ Aside0 (Kd.N (Kd.slice 2 (Kd.int .i64)) 24 w' w.heap.size (fun _ => True) (.slice Ao5 t101.length co5) t101) ∧ Aside0 (Below w.heap.size w w'))
 case atStart => exact ⟨(0), (0), zF, zF, H', ⟨Nat.le_refl _⟩, ⟨by (with_reducible repeat (first | apply Kd.N_alloc | apply Kd.N_drewN | apply Kd.N_drew)); exact HO103.out⟩, ⟨zB⟩⟩
 clear H'
 obtain ⟨x6_1, x14_1, rfl, rfl, HA, HK1, HO_5, HB⟩ := hrel
 cases gk with
 | zero => exact absurd HA.out (by simp [spec_l07Greatest.l0])
 | succ k1 =>
   have H := HA.out
   clear HA
   simp only [spec_l07Greatest.l0] at H
   by_cases c6 : x14_1 < (t101.length : Int)
   · rw [if_pos c6] at H
     have c6b0 : decide (x14_1 < (t101.length : Int)) = true := decide_eq_true c6
     clear c6
     by_cases c7 : 0 ≤ x14_1
     · rw [if_pos c7] at H
       have c7b0 : decide (0 ≤ x14_1) = true := decide_eq_true c7
       clear c7
       by_cases c8 : x14_1 < (t101.length : Int)
       · rw [if_pos c8] at H
         have c8b0 : decide (x14_1 < (t101.length : Int)) = true := decide_eq_true c8
         clear c8
         have H' := Aside0.mk H
         clear H
         have p104 : 0 ≤ (x14_1 : Int) := zD
         have q104 : x14_1 < (t101.length : Int) := zD
         obtain ⟨ad104, A104_0, c104_0, e104, hx104_0, hl104_0, hi104_0⟩ := at_L2 (Kd.N_reads' HO_5.out).2.2 x14_1 p104 q104
         cases e104
         obtain ⟨ce104, hce104, hMe104, hcc104⟩ := Kd.N_get HO_5.out [] x14_1 p104 (by first | exact q104 | exact zD | (have e_ := (Kd.N_reads' HO_5.out).1; omega))
         obtain ⟨ua104_0, uc104_0, rfl, ul104_0, ge104_0⟩ := Kd.FK_slice_open hMe104
         have hv104_0 := hcc104 0 _ rfl
         rw [Nat.add_zero, show ((Kd.slice 2 (Kd.int .i64))).sz = 1 from rfl, Nat.mul_one] at hv104_0
         replace hv104_0 := Option.some.inj (hv104_0.symm.trans hx104_0)
         injection hv104_0 with hva_ hvn_ hvc_
         rw [hva_] at ge104_0
         rw [hvc_] at ul104_0
         have HL104_0 := Aside0.mk (show Kd.V (Kd.int .i64) 2 _ w.heap.size _ _ (rd_L2 t101 x14_1) from Kd.V_mk ul104_0 ge104_0)
         clear hva_ hvn_ hvc_ ge104_0 ul104_0
         clear hcc104 hce104
         have HR104_0 := Aside0.mk hi104_0
         have HC104_0 := Aside0.mk hl104_0
         clear hi104_0 hl104_0
         replace p104 := eq_true p104
         replace q104 := eq_true q104
         go_wp2
         repeat (go_quiet (fail); try go_wp2)
         go_loopg [6, 22] k1 (fun kq v6 v22 w' => ∃ (x6_2 : Int) (x22_2 : Int), v6 = .int .i64 x6_2 ∧ v22 = .int .i64 x22_2 ∧ Aside0 (spec_l07Greatest.l1 kq t101 x6_2 x14_1 (t101.length : Int) x14_1 ((rd_L2 t101 x14_1).length : Int) x22_2 = some r) ∧ Aside0 (kq ≤ k1) ∧ Aside0 (Kd.N (Kd.slice 2 (Kd.int .i64)) 24 w' w.heap.size (fun _ => True) (.slice (some ad104) t101.length co5) t101) ∧ Aside0 (Kd.C (Kd.int .i64) w' A104_0 (rd_L2 t101 x14_1).length (rd_L2 t101 x14_1)) ∧ Aside0 (Below w.heap.size w w'))
         case atStart => exact ⟨(x6_1), (0), zF, zF, H', ⟨Nat.le_refl _⟩, ⟨by (with_reducible repeat (first | apply Kd.N_alloc | apply Kd.N_drewN | apply Kd.N_drew)); exact HO_5.out⟩, ⟨by repeat (first | (with_reducible exact HR104_0.out) | (with_reducible refine Kd.C_alloc ?_ _) | (with_reducible refine Kd.C_drewN ?_ _) | (with_reducible refine Kd.C_drew ?_) | exact HR104_0.out)⟩, ⟨zB⟩⟩
         case round =>
           clear H'
           try clear c6
           try clear c6b0
           try clear c7
           try clear c7b0
           try clear c8
           try clear c8b0
           try clear hx104_0
           try clear p104
           try clear q104
           obtain ⟨x6_2, x22_2, rfl, rfl, HA, HK2, HO_5, HR104_0, HB⟩ := hrel
           cases gk with
           | zero => exact absurd HA.out (by simp [spec_l07Greatest.l1])
           | succ k2 =>
             have H := HA.out
             clear HA
             simp only [spec_l07Greatest.l1] at H
             by_cases c9 : x22_2 < ((rd_L2 t101 x14_1).length : Int)
             · rw [if_pos c9] at H
               have c9b0 : decide (x22_2 < ((rd_L2 t101 x14_1).length : Int)) = true := decide_eq_true c9
               clear c9
               by_cases c10 : 0 ≤ x14_1
               · rw [if_pos c10] at H
                 have c10b0 : decide (0 ≤ x14_1) = true := decide_eq_true c10
                 clear c10
                 by_cases c11 : x14_1 < (t101.length : Int)
                 · rw [if_pos c11] at H
                   have c11b0 : decide (x14_1 < (t101.length : Int)) = true := decide_eq_true c11
                   clear c11
                   by_cases c12 : 0 ≤ x22_2
                   · rw [if_pos c12] at H
                     have c12b0 : decide (0 ≤ x22_2) = true := decide_eq_true c12
                     clear c12
                     by_cases c13 : x22_2 < ((rd_L2 t101 x14_1).length : Int)
                     · rw [if_pos c13] at H
                       have c13b0 : decide (x22_2 < ((rd_L2 t101 x14_1).length : Int)) = true := decide_eq_true c13
                       clear c13
                       obtain ⟨ji14, hji14⟩ : ∃ j_ : Int, (mx x6_2 (rd (rd_L2 t101 x14_1) x22_2)) = j_ := ⟨_, rfl⟩
                       replace H : (spec_l07Greatest.l1 k2 t101 (mx (ji14) (wrap64 (-(rd (rd_L2 t101 x14_1) x22_2)))) x14_1 (t101.length : Int) x14_1 ((rd_L2 t101 x14_1).length : Int) (wrap64 (x22_2 + 1))) = some r := by first | (rw [hji14] at H; exact H) | (simp only [hji14] at H ⊢; exact H)
                       have hji14_ : (if x6_2 < (rd (rd_L2 t101 x14_1) x22_2) then (rd (rd_L2 t101 x14_1) x22_2) else x6_2) = ji14 := hji14
                       obtain ⟨ji15, hji15⟩ : ∃ j_ : Int, (mx (ji14) (wrap64 (-(rd (rd_L2 t101 x14_1) x22_2)))) = j_ := ⟨_, rfl⟩
                       replace H : (spec_l07Greatest.l1 k2 t101 ji15 x14_1 (t101.length : Int) x14_1 ((rd_L2 t101 x14_1).length : Int) (wrap64 (x22_2 + 1))) = some r := by first | (rw [hji15] at H; exact H) | (simp only [hji15] at H ⊢; exact H)
                       have hji15_ : (if (ji14) < (wrap64 (-(rd (rd_L2 t101 x14_1) x22_2))) then (wrap64 (-(rd (rd_L2 t101 x14_1) x22_2))) else (ji14)) = ji15 := hji15
                       have H' := Aside0.mk H
                       clear H
                       have p105 : 0 ≤ (x14_1 : Int) := zD
                       have q105 : x14_1 < (t101.length : Int) := zD
                       obtain ⟨ad105, A105_0, c105_0, e105, hx105_0, hl105_0, hi105_0⟩ := at_L2 (Kd.N_reads' HO_5.out).2.2 x14_1 p105 q105
                       obtain rfl : ad104 = ad105 := (by injection e105)
                       obtain ⟨ce105, hce105, hMe105, hcc105⟩ := Kd.N_get HO_5.out [] x14_1 p105 (by first | exact q105 | exact zD | (have e_ := (Kd.N_reads' HO_5.out).1; omega))
                       obtain ⟨ua105_0, uc105_0, rfl, ul105_0, ge105_0⟩ := Kd.FK_slice_open hMe105
                       have hv105_0 := hcc105 0 _ rfl
                       rw [Nat.add_zero, show ((Kd.slice 2 (Kd.int .i64))).sz = 1 from rfl, Nat.mul_one] at hv105_0
                       replace hv105_0 := Option.some.inj (hv105_0.symm.trans hx105_0)
                       injection hv105_0 with hva_ hvn_ hvc_
                       rw [hva_] at ge105_0
                       rw [hvc_] at ul105_0
                       have HL105_0 := Aside0.mk (show Kd.V (Kd.int .i64) 2 _ w.heap.size _ _ (rd_L2 t101 x14_1) from Kd.V_mk ul105_0 ge105_0)
                       clear hva_ hvn_ hvc_ ge105_0 ul105_0
                       clear hcc105 hce105
                       have HR105_0 := Aside0.mk hi105_0
                       have HC105_0 := Aside0.mk hl105_0
                       clear hi105_0 hl105_0
                       replace p105 := eq_true p105
                       replace q105 := eq_true q105
                       have p106 : 0 ≤ (x22_2 : Int) := zD
                       have q106 : x22_2 < ((rd_L2 t101 x14_1).length : Int) := zD
                       obtain ⟨ad106, e106, hx106_0⟩ := Kd.at_int (by repeat (first | (with_reducible exact HR105_0.out) | (with_reducible refine Kd.C_alloc ?_ _) | (with_reducible refine Kd.C_drewN ?_ _) | (with_reducible refine Kd.C_drew ?_) | exact HR105_0.out)) x22_2 p106 q106
                       cases e106
                       replace p106 := eq_true p106
                       replace q106 := eq_true q106
                       have p107 : 0 ≤ (x14_1 : Int) := zD
                       have q107 : x14_1 < (t101.length : Int) := zD
                       obtain ⟨ad107, A107_0, c107_0, e107, hx107_0, hl107_0, hi107_0⟩ := at_L2 (Kd.N_reads' HO_5.out).2.2 x14_1 p107 q107
                       obtain rfl : ad104 = ad107 := (by injection e107)
                       obtain ⟨ce107, hce107, hMe107, hcc107⟩ := Kd.N_get HO_5.out [] x14_1 p107 (by first | exact q107 | exact zD | (have e_ := (Kd.N_reads' HO_5.out).1; omega))
                       obtain ⟨ua107_0, uc107_0, rfl, ul107_0, ge107_0⟩ := Kd.FK_slice_open hMe107
                       have hv107_0 := hcc107 0 _ rfl
                       rw [Nat.add_zero, show ((Kd.slice 2 (Kd.int .i64))).sz = 1 from rfl, Nat.mul_one] at hv107_0
                       replace hv107_0 := Option.some.inj (hv107_0.symm.trans hx107_0)
                       injection hv107_0 with hva_ hvn_ hvc_
                       rw [hva_] at ge107_0
                       rw [hvc_] at ul107_0
                       have HL107_0 := Aside0.mk (show Kd.V (Kd.int .i64) 2 _ w.heap.size _ _ (rd_L2 t101 x14_1) from Kd.V_mk ul107_0 ge107_0)
                       clear hva_ hvn_ hvc_ ge107_0 ul107_0
                       clear hcc107 hce107
                       have HR107_0 := Aside0.mk hi107_0
                       have HC107_0 := Aside0.mk hl107_0
                       clear hi107_0 hl107_0
                       replace p107 := eq_true p107
                       replace q107 := eq_true q107
                       have ea_ := Option.some.inj (hx105_0.symm.trans hx107_0)
                       injection ea_ with ea_ en_ ec_
                       subst ea_
                       subst ec_
                       clear en_
                       have p108 : 0 ≤ (x22_2 : Int) := zD
                       have q108 : x22_2 < ((rd_L2 t101 x14_1).length : Int) := zD
                       obtain ⟨ad108, e108, hx108_0⟩ := Kd.at_int (by repeat (first | (with_reducible exact HR107_0.out) | (with_reducible refine Kd.C_alloc ?_ _) | (with_reducible refine Kd.C_drewN ?_ _) | (with_reducible refine Kd.C_drew ?_) | exact HR107_0.out)) x22_2 p108 q108
                       cases e108
                       replace p108 := eq_true p108
                       replace q108 := eq_true q108
                       go_wp2
                       repeat (go_quiet (fail); try go_wp2)
                       go_roundg k2
                       case measure => have := HK1.out; have := HK2.out; omega
                       case rel => exact ⟨(ji15), (wrap64 (x22_2 + 1)), (by first | rfl | (simp; done) | (simp only [← hji15] <;> (first | rfl | simp)) | (simp [*]; done)), zF, H', ⟨by have := HK1.out; have := HK2.out; omega⟩, ⟨by (with_reducible repeat (first | apply Kd.N_alloc | apply Kd.N_drewN | apply Kd.N_drew)); exact HO_5.out⟩, ⟨by repeat (first | (with_reducible exact HR104_0.out) | (with_reducible refine Kd.C_alloc ?_ _) | (with_reducible refine Kd.C_drewN ?_ _) | (with_reducible refine Kd.C_drew ?_) | exact HR104_0.out)⟩, ⟨zB⟩⟩
                     · rw [if_neg c13] at H
                       exact absurd H (by simp)
                   · rw [if_neg c12] at H
                     exact absurd H (by simp)
                 · rw [if_neg c11] at H
                   exact absurd H (by simp)
               · rw [if_neg c10] at H
                 exact absurd H (by simp)
             · rw [if_neg c9] at H
               have c9b0 : decide (x22_2 < ((rd_L2 t101 x14_1).length : Int)) = false := decide_eq_false c9
               clear c9
               have H' := Aside0.mk H
               clear H
               go_wp2
               repeat (go_quiet (fail); try go_wp2)
               go_roundg k2
               case measure => have := HK1.out; have := HK2.out; omega
               case rel => exact ⟨(x6_2), (wrap64 (x14_1 + 1)), zF, zF, H', ⟨by have := HK1.out; have := HK2.out; omega⟩, ⟨by (with_reducible repeat (first | apply Kd.N_alloc | apply Kd.N_drewN | apply Kd.N_drew)); exact HO_5.out⟩, ⟨zB⟩⟩
       · rw [if_neg c8] at H
         exact absurd H (by simp)
     · rw [if_neg c7] at H
       exact absurd H (by simp)
   · rw [if_neg c6] at H
     have c6b0 : decide (x14_1 < (t101.length : Int)) = false := decide_eq_false c6
     clear c6
     obtain rfl := Option.some.inj H
     go_wp2
     repeat (go_quiet (fail); try go_wp2)
     go_ret
     exact ⟨zE, zB⟩
end Go.Proofs.Ytfmjckkgnieccaa.P
end
section
namespace Go.Proofs.Ytfmjckkgnieccaa.P
open Go.RowKit Go.Proofs.YtfmjckkgnieccaaW.PrintWords Go.Proofs.YtfmjckkgnieccaaW.PrintLast Go.Proofs.YtfmjckkgnieccaaW.PrintMore
attribute [local go_sem] max2_int min2_int max_two min_two max_three min_three max_four min_four   -- for this text's walks alone
set_option linter.unusedVariables false
set_option linter.unusedSimpArgs false
def spec_GreatestDifference.f (k : Nat) (l0 : List Int) : Option (Int × Int) := (spec_l07Given.f k l0).bind fun bt101 => (if bt101.2 = 0 then ((spec_l07Greatest.f k l0 bt101.1).bind fun t105 => (some (t105, 0))) else (some (0, bt101.2)))
theorem spec_GreatestDifference.mono : ∀ a0 k, LeO (spec_GreatestDifference.f k a0) (spec_GreatestDifference.f (k + 1) a0) := by
  intro a0 k
  unfold spec_GreatestDifference.f
  repeat' first | (with_reducible exact spec_l07Given.mono _ _) | (with_reducible exact spec_l07Greatest.mono _ _ _) | (with_reducible exact LeO.refl _) | (with_reducible exact LeO.none _) | (with_reducible refine LeO.ite ?_ ?_) | (with_reducible refine LeO.bind ?_ (fun _ => ?_)) | exact spec_l07Given.mono _ _ | exact spec_l07Greatest.mono _ _ _ | exact LeO.none _ | refine LeO.ite ?_ ?_ | refine LeO.bind ?_ (fun _ => ?_)
set_option maxHeartbeats 8000000 in
set_option maxRecDepth 100000 in
theorem spec_GreatestDifference.calls (k : Nat) (A0 : Option Addr) (c0 : Nat) (l0 : List Int) (r1 : Int) (r2 : Int) (w : World) (hr0 : Kd.C (Kd.int .i64) w A0 l0.length l0) (hc0 : l0.length ≤ c0) (h : spec_GreatestDifference.f k l0 = some (r1, r2)) :
    Calls Try.prog 20 #[.slice A0 l0.length c0] w fun e w' => e = .returned (.tuple #[.int .i64 r1, .int .i64 r2]) ∧ Below w.heap.size w w' := by
 have HR0 := Aside0.mk hr0
 have HC0 := Aside0.mk hc0
 clear hr0 hc0
 have HB := Aside0.mk (Below.refl w.heap.size w)
 have H : ((spec_l07Given.f k l0).bind fun bt101 => (if bt101.2 = 0 then ((spec_l07Greatest.f k l0 bt101.1).bind fun t105 => (some (t105, 0))) else (some (0, bt101.2)))) = some (r1, r2) := h
 clear h
 replace H := Option.bind_eq_some_iff.mp H
 obtain ⟨⟨t101, t102⟩, A20, H⟩ := H
 replace H : (if t102 = 0 then ((spec_l07Greatest.f k l0 t101).bind fun t105 => (some (t105, 0))) else (some (0, t102))) = some (r1, r2) := H
 have A2 := Aside0.mk A20
 clear A20
 by_cases c3 : t102 = 0
 ·
  rw [if_pos c3] at H
  have c3b0 : (t102 == 0) = true := beq_iff_eq.mpr c3
  have c3b1 : (t102 != 0) = false := bne_eq_false_iff_eq.mpr c3
  clear c3
  replace H := Option.bind_eq_some_iff.mp H
  obtain ⟨t105, A40, H⟩ := H
  replace H : (some (t105, 0)) = some (r1, r2) := H
  have A4 := Aside0.mk A40
  clear A40
  simp only [Option.some.injEq, Prod.mk.injEq] at H
  obtain ⟨rfl, rfl⟩ := H
  go_enter Try.func20, Try.ntmps20
  go_wp2_with (first | ((with_reducible refine gate_callee (f := 31) rfl ?_); refine goesL_ (some 8) rfl rfl Try.func31 zk rfl #[.slice A0 l0.length c0] rfl zA ?_; (with_reducible refine (spec_l07Given.calls k _ _ l0 t101 t102 _ ?side1 ?side2 A2.out).mono ?_); (case side1 => exact zC HR0.out); (case side2 => exact HC0.out); rintro e w5 ⟨v103, rfl, ho0, hb⟩; refine ⟨_, rfl, ?_⟩; have n_ := y2 (Kd.R_lower ho0 (below_size (zB))) (below_step (zB) hb); clear HB; obtain ⟨HO104, HB⟩ := n_; (try clear hb); (try clear hb2); (try clear hk); (try clear hi); (try clear ho0); obtain ⟨Ao6, co6, eo6⟩ := Kd.R_slice HO104.out; subst eo6) | ((with_reducible refine gate_callee (f := 52) rfl ?_); refine goesL_ (some 16) rfl rfl Try.func52 zk rfl #[.slice A0 l0.length c0, .slice Ao6 t101.length co6] rfl zA ?_; (with_reducible refine (spec_l07Greatest.calls k _ _ l0 _ _ t101 t105 _ ?side1 ?side2 ?side3 ?side4 A4.out).mono ?_); (case side1 => exact zC (Kd.C_below HR0.out HB.out)); (case side2 => exact HC0.out); (case side3 => exact zC (Kd.R_reads' HO104.out).2.2); (case side4 => exact (Kd.R_reads' HO104.out).2.1); rintro e w7 ⟨rfl, hb⟩; refine ⟨_, rfl, ?_⟩; have n_ := y2 (Kd.R_below (zR HO104.out) hb) (below_step (zB) hb); clear HO104 HB; obtain ⟨HO104, HB⟩ := n_; (try clear hb); (try clear hb2); (try clear hk); (try clear hi)))
  go_ret2
  exact ⟨zE, zB⟩
 rw [if_neg c3] at H
 have c3b0 : (t102 == 0) = false := beq_eq_false_iff_ne.mpr c3
 have c3b1 : (t102 != 0) = true := bne_iff_ne.mpr c3
 simp only [Option.some.injEq, Prod.mk.injEq] at H
 obtain ⟨rfl, rfl⟩ := H
 go_enter Try.func20, Try.ntmps20
 go_wp2_with (first | ((with_reducible refine gate_callee (f := 31) rfl ?_); refine goesL_ (some 8) rfl rfl Try.func31 zk rfl #[.slice A0 l0.length c0] rfl zA ?_; (with_reducible refine (spec_l07Given.calls k _ _ l0 t101 t102 _ ?side1 ?side2 A2.out).mono ?_); (case side1 => exact zC HR0.out); (case side2 => exact HC0.out); rintro e w8 ⟨v103, rfl, ho0, hb⟩; refine ⟨_, rfl, ?_⟩; have n_ := y2 (Kd.R_lower ho0 (below_size (zB))) (below_step (zB) hb); clear HB; obtain ⟨HO104, HB⟩ := n_; (try clear hb); (try clear hb2); (try clear hk); (try clear hi); (try clear ho0)))
 go_ret2
 exact ⟨zE, zB⟩
end Go.Proofs.Ytfmjckkgnieccaa.P
end
section
namespace Go.Proofs.Ytfmjckkgnieccaa.P
open Go.RowKit Go.Proofs.YtfmjckkgnieccaaW.PrintWords Go.Proofs.YtfmjckkgnieccaaW.PrintLast Go.Proofs.YtfmjckkgnieccaaW.PrintMore
attribute [local go_sem] max2_int min2_int max_two min_two max_three min_three max_four min_four   -- for this text's walks alone
set_option linter.unusedVariables false
set_option linter.unusedSimpArgs false
def laws_rows5.l0 : Nat → List (List Int) → List (List Int) → Int → Option (Bool)
  | 0, _, _, _ => none
  | k + 1, x0, x1, x5 => if x5 < (x0.length : Int) then (if 0 ≤ x5 then (if x5 < (x1.length : Int) then ((laws_likeInts.f k (rd_L2 x0 x5) (rd_L2 x1 x5)).bind fun t103 => (if t103 = true then (laws_rows5.l0 k x0 x1 (wrap64 (x5 + 1))) else (some false))) else (none)) else (none)) else (some true)
def laws_rows5.f (k : Nat) (l0 : List (List Int)) (l1 : List (List Int)) : Option (Bool) := if (l0.length : Int) = (l1.length : Int) then (laws_rows5.l0 k l0 l1 0) else (some false)
theorem laws_rows5.mono_l : ∀ k, (∀ y0 y1 y2, LeO (laws_rows5.l0 k y0 y1 y2) (laws_rows5.l0 (k + 1) y0 y1 y2))
  | 0 => fun _ _ _ r h => by simp [laws_rows5.l0] at h
  | k + 1 => by
    have ih0 := laws_rows5.mono_l k
    · intro y0 y1 y2
      unfold laws_rows5.l0
      repeat' first | (with_reducible exact ih0 _ _ _) | (with_reducible exact laws_likeInts.mono _ _ _) | (with_reducible exact LeO.refl _) | (with_reducible exact LeO.none _) | (with_reducible refine LeO.ite ?_ ?_) | (with_reducible refine LeO.bind ?_ (fun _ => ?_)) | exact ih0 _ _ _ | exact laws_likeInts.mono _ _ _ | exact LeO.none _ | refine LeO.ite ?_ ?_ | refine LeO.bind ?_ (fun _ => ?_)
theorem laws_rows5.mono : ∀ a0 a1 k, LeO (laws_rows5.f k a0 a1) (laws_rows5.f (k + 1) a0 a1) := by
  intro a0 a1 k
  have ih0 := laws_rows5.mono_l k
  unfold laws_rows5.f
  repeat' first | (with_reducible exact ih0 _ _ _) | (with_reducible exact laws_likeInts.mono _ _ _) | (with_reducible exact LeO.refl _) | (with_reducible exact LeO.none _) | (with_reducible refine LeO.ite ?_ ?_) | (with_reducible refine LeO.bind ?_ (fun _ => ?_)) | exact ih0 _ _ _ | exact laws_likeInts.mono _ _ _ | exact LeO.none _ | refine LeO.ite ?_ ?_ | refine LeO.bind ?_ (fun _ => ?_)
set_option maxHeartbeats 8000000 in
set_option maxRecDepth 100000 in
theorem laws_rows5.calls (k : Nat) (A0 : Option Addr) (c0 : Nat) (l0 : List (List Int)) (A1 : Option Addr) (c1 : Nat) (l1 : List (List Int)) (r : Bool) (w : World) (hr0 : Kd.C (Kd.slice 2 (Kd.int .i64)) w A0 l0.length l0) (hc0 : l0.length ≤ c0) (hr1 : Kd.C (Kd.slice 2 (Kd.int .i64)) w A1 l1.length l1) (hc1 : l1.length ≤ c1) (h : laws_rows5.f k l0 l1 = some r) :
    Calls Try.prog 21 #[.slice A0 l0.length c0, .slice A1 l1.length c1] w fun e w' => e = .returned (.bool r) ∧ Drawn0 w w' := by
 have HR0 := Aside0.mk hr0
 have HC0 := Aside0.mk hc0
 clear hr0 hc0
 have HR1 := Aside0.mk hr1
 have HC1 := Aside0.mk hc1
 clear hr1 hc1
 have H : (if (l0.length : Int) = (l1.length : Int) then (laws_rows5.l0 k l0 l1 0) else (some false)) = some r := h
 clear h
 by_cases c3 : (l0.length : Int) = (l1.length : Int)
 ·
  rw [if_pos c3] at H
  have c3b0 : ((l0.length : Int) == (l1.length : Int)) = true := beq_iff_eq.mpr c3
  have c3b1 : ((l0.length : Int) != (l1.length : Int)) = false := bne_eq_false_iff_eq.mpr c3
  have c3b2 : (l0.length == l1.length) = true := by first | simpa using c3 | (simp at c3 ⊢; omega)
  clear c3
  have H' := Aside0.mk H
  clear H
  go_enter Try.func21, Try.ntmps21
  go_wp2
  repeat (go_quiet (fail); try go_wp2)
  go_loopg [5] k (fun kq v5 w' => ∃ (x5_1 : Int), v5 = .int .i64 x5_1 ∧ Aside0 (laws_rows5.l0 kq l0 l1 x5_1 = some r) ∧ Aside0 (kq ≤ k) ∧ Drawn0 w w')
  case atStart => exact ⟨(0), zF, H', ⟨Nat.le_refl _⟩, by repeat (first | exact Drawn0.refl _ | apply Drawn0.step)⟩
  clear H'
  try clear c3
  try clear c3b0
  try clear c3b1
  try clear c3b2
  obtain ⟨x5_1, rfl, HA, HK1, ⟨m1, rfl⟩⟩ := hrel
  cases gk with
  | zero => exact absurd HA.out (by simp [laws_rows5.l0])
  | succ k1 =>
    have H := HA.out
    clear HA
    simp only [laws_rows5.l0] at H
    by_cases c4 : x5_1 < (l0.length : Int)
    · rw [if_pos c4] at H
      have c4b0 : decide (x5_1 < (l0.length : Int)) = true := decide_eq_true c4
      clear c4
      by_cases c5 : 0 ≤ x5_1
      · rw [if_pos c5] at H
        have c5b0 : decide (0 ≤ x5_1) = true := decide_eq_true c5
        clear c5
        by_cases c6 : x5_1 < (l1.length : Int)
        · rw [if_pos c6] at H
          have c6b0 : decide (x5_1 < (l1.length : Int)) = true := decide_eq_true c6
          clear c6
          replace H := Option.bind_eq_some_iff.mp H
          obtain ⟨t103, A70, H⟩ := H
          replace H : (if t103 = true then (laws_rows5.l0 k1 l0 l1 (wrap64 (x5_1 + 1))) else (some false)) = some r := H
          have A7 := Aside0.mk A70
          clear A70
          by_cases c8 : t103 = true
          · subst c8
            have H1 : (laws_rows5.l0 k1 l0 l1 (wrap64 (x5_1 + 1))) = some r := by rw [if_pos rfl] at H; exact H
            clear H
            have H := H1
            clear H1
            have H' := Aside0.mk H
            clear H
            have p101 : 0 ≤ (x5_1 : Int) := zD
            have q101 : x5_1 < (l0.length : Int) := zD
            obtain ⟨ad101, A101_0, c101_0, e101, hx101_0, hl101_0, hi101_0⟩ := at_L2 HR0.out x5_1 p101 q101
            cases e101
            have HR101_0 := Aside0.mk hi101_0
            have HC101_0 := Aside0.mk hl101_0
            clear hi101_0 hl101_0
            replace p101 := eq_true p101
            replace q101 := eq_true q101
            have p102 : 0 ≤ (x5_1 : Int) := zD
            have q102 : x5_1 < (l1.length : Int) := zD
            obtain ⟨ad102, A102_0, c102_0, e102, hx102_0, hl102_0, hi102_0⟩ := at_L2 HR1.out x5_1 p102 q102
            cases e102
            have HR102_0 := Aside0.mk hi102_0
            have HC102_0 := Aside0.mk hl102_0
            clear hi102_0 hl102_0
            replace p102 := eq_true p102
            replace q102 := eq_true q102
            go_wp2_with (first | (go_at_call 12; (with_reducible refine (laws_likeInts.calls k1 _ _ (rd_L2 l0 x5_1) _ _ (rd_L2 l1 x5_1) true _ ?side1 ?side2 ?side3 ?side4 A7.out).mono ?_); (case side1 => exact zC HR101_0.out); (case side2 => exact HC101_0.out); (case side3 => exact zC HR102_0.out); (case side4 => exact HC102_0.out); rintro e w' ⟨rfl, ⟨nd, rfl⟩⟩; (try exact zd)))
            repeat (go_quiet (first | (go_at_call 12; (with_reducible refine (laws_likeInts.calls k1 _ _ (rd_L2 l0 x5_1) _ _ (rd_L2 l1 x5_1) true _ ?side1 ?side2 ?side3 ?side4 A7.out).mono ?_); (case side1 => exact zC HR101_0.out); (case side2 => exact HC101_0.out); (case side3 => exact zC HR102_0.out); (case side4 => exact HC102_0.out); rintro e w' ⟨rfl, ⟨nd, rfl⟩⟩; (try exact zd))); try go_wp2_with (first | (go_at_call 12; (with_reducible refine (laws_likeInts.calls k1 _ _ (rd_L2 l0 x5_1) _ _ (rd_L2 l1 x5_1) true _ ?side1 ?side2 ?side3 ?side4 A7.out).mono ?_); (case side1 => exact zC HR101_0.out); (case side2 => exact HC101_0.out); (case side3 => exact zC HR102_0.out); (case side4 => exact HC102_0.out); rintro e w' ⟨rfl, ⟨nd, rfl⟩⟩; (try exact zd))))
            go_roundg k1
            case measure => have := HK1.out; omega
            case rel => exact ⟨(wrap64 (x5_1 + 1)), zF, H', ⟨by have := HK1.out; omega⟩, by repeat (first | exact Drawn0.refl _ | apply Drawn0.step)⟩
          · replace c8 := Bool.eq_false_iff.mpr c8
            subst c8
            have H1 : (some false) = some r := by rw [if_neg (show ¬ (false = true) by decide)] at H; exact H
            clear H
            have H := H1
            clear H1
            obtain rfl := Option.some.inj H
            have p101 : 0 ≤ (x5_1 : Int) := zD
            have q101 : x5_1 < (l0.length : Int) := zD
            obtain ⟨ad101, A101_0, c101_0, e101, hx101_0, hl101_0, hi101_0⟩ := at_L2 HR0.out x5_1 p101 q101
            cases e101
            have HR101_0 := Aside0.mk hi101_0
            have HC101_0 := Aside0.mk hl101_0
            clear hi101_0 hl101_0
            replace p101 := eq_true p101
            replace q101 := eq_true q101
            have p102 : 0 ≤ (x5_1 : Int) := zD
            have q102 : x5_1 < (l1.length : Int) := zD
            obtain ⟨ad102, A102_0, c102_0, e102, hx102_0, hl102_0, hi102_0⟩ := at_L2 HR1.out x5_1 p102 q102
            cases e102
            have HR102_0 := Aside0.mk hi102_0
            have HC102_0 := Aside0.mk hl102_0
            clear hi102_0 hl102_0
            replace p102 := eq_true p102
            replace q102 := eq_true q102
            go_wp2_with (first | (go_at_call 12; (with_reducible refine (laws_likeInts.calls k1 _ _ (rd_L2 l0 x5_1) _ _ (rd_L2 l1 x5_1) false _ ?side1 ?side2 ?side3 ?side4 A7.out).mono ?_); (case side1 => exact zC HR101_0.out); (case side2 => exact HC101_0.out); (case side3 => exact zC HR102_0.out); (case side4 => exact HC102_0.out); rintro e w' ⟨rfl, ⟨nd, rfl⟩⟩; (try exact zd)))
            repeat (go_quiet (first | (go_at_call 12; (with_reducible refine (laws_likeInts.calls k1 _ _ (rd_L2 l0 x5_1) _ _ (rd_L2 l1 x5_1) false _ ?side1 ?side2 ?side3 ?side4 A7.out).mono ?_); (case side1 => exact zC HR101_0.out); (case side2 => exact HC101_0.out); (case side3 => exact zC HR102_0.out); (case side4 => exact HC102_0.out); rintro e w' ⟨rfl, ⟨nd, rfl⟩⟩; (try exact zd))); try go_wp2_with (first | (go_at_call 12; (with_reducible refine (laws_likeInts.calls k1 _ _ (rd_L2 l0 x5_1) _ _ (rd_L2 l1 x5_1) false _ ?side1 ?side2 ?side3 ?side4 A7.out).mono ?_); (case side1 => exact zC HR101_0.out); (case side2 => exact HC101_0.out); (case side3 => exact zC HR102_0.out); (case side4 => exact HC102_0.out); rintro e w' ⟨rfl, ⟨nd, rfl⟩⟩; (try exact zd))))
            go_ret
            exact ⟨by first | rfl | (simp; done) | (simp [*]; done), by repeat (first | exact Drawn0.refl _ | apply Drawn0.step)⟩
        · rw [if_neg c6] at H
          exact absurd H (by simp)
      · rw [if_neg c5] at H
        exact absurd H (by simp)
    · rw [if_neg c4] at H
      have c4b0 : decide (x5_1 < (l0.length : Int)) = false := decide_eq_false c4
      clear c4
      obtain rfl := Option.some.inj H
      go_wp2
      repeat (go_quiet (fail); try go_wp2)
      go_ret
      exact ⟨by first | rfl | (simp; done) | (simp [*]; done), by repeat (first | exact Drawn0.refl _ | apply Drawn0.step)⟩
 rw [if_neg c3] at H
 have c3b0 : ((l0.length : Int) == (l1.length : Int)) = false := beq_eq_false_iff_ne.mpr c3
 have c3b1 : ((l0.length : Int) != (l1.length : Int)) = true := bne_iff_ne.mpr c3
 have c3b2 : (l0.length == l1.length) = false := by first | simpa using c3 | (simp at c3 ⊢; omega)
 obtain rfl := Option.some.inj H
 go_enter Try.func21, Try.ntmps21
 go_wp2
 repeat (go_quiet (fail); try go_wp2)
 go_ret
 exact ⟨by first | rfl | (simp; done) | (simp [*]; done), by repeat (first | exact Drawn0.refl _ | apply Drawn0.step)⟩
end Go.Proofs.Ytfmjckkgnieccaa.P
end
section
namespace Go.Proofs.Ytfmjckkgnieccaa.P
open Go.RowKit Go.Proofs.YtfmjckkgnieccaaW.PrintWords Go.Proofs.YtfmjckkgnieccaaW.PrintLast Go.Proofs.YtfmjckkgnieccaaW.PrintMore
attribute [local go_sem] max2_int min2_int max_two min_two max_three min_three max_four min_four   -- for this text's walks alone
set_option linter.unusedVariables false
set_option linter.unusedSimpArgs false
def impl_greatest.l0 : Nat → Int → List Int → Int → Int → Option (Int)
  | 0, _, _, _, _ => none
  | k + 1, x3, x6, x7, x8 => if x8 < x7 then (if 0 ≤ x8 then (if x8 < (x6.length : Int) then (impl_greatest.l0 k (mx x3 (rd x6 x8)) x6 x7 (wrap64 (x8 + 1))) else (none)) else (none)) else (some x3)
def impl_greatest.f (k : Nat) (l0 : List Int) : Option (Int) := impl_greatest.l0 k 0 l0 (l0.length : Int) 0
theorem impl_greatest.mono_l : ∀ k, (∀ y0 y1 y2 y3, LeO (impl_greatest.l0 k y0 y1 y2 y3) (impl_greatest.l0 (k + 1) y0 y1 y2 y3))
  | 0 => fun _ _ _ _ r h => by simp [impl_greatest.l0] at h
  | k + 1 => by
    have ih0 := impl_greatest.mono_l k
    · intro y0 y1 y2 y3
      unfold impl_greatest.l0
      repeat' first | (with_reducible exact ih0 _ _ _ _) | (with_reducible exact LeO.refl _) | (with_reducible exact LeO.none _) | (with_reducible refine LeO.ite ?_ ?_) | (with_reducible refine LeO.bind ?_ (fun _ => ?_)) | exact ih0 _ _ _ _ | exact LeO.none _ | refine LeO.ite ?_ ?_ | refine LeO.bind ?_ (fun _ => ?_)
theorem impl_greatest.mono : ∀ a0 k, LeO (impl_greatest.f k a0) (impl_greatest.f (k + 1) a0) := by
  intro a0 k
  have ih0 := impl_greatest.mono_l k
  unfold impl_greatest.f
  repeat' first | (with_reducible exact ih0 _ _ _ _) | (with_reducible exact LeO.refl _) | (with_reducible exact LeO.none _) | (with_reducible refine LeO.ite ?_ ?_) | (with_reducible refine LeO.bind ?_ (fun _ => ?_)) | exact ih0 _ _ _ _ | exact LeO.none _ | refine LeO.ite ?_ ?_ | refine LeO.bind ?_ (fun _ => ?_)
set_option maxHeartbeats 8000000 in
set_option maxRecDepth 100000 in
theorem impl_greatest.calls (k : Nat) (A0 : Option Addr) (c0 : Nat) (l0 : List Int) (r : Int) (w : World) (hr0 : Kd.C (Kd.int .i64) w A0 l0.length l0) (hc0 : l0.length ≤ c0) (h : impl_greatest.f k l0 = some r) :
    Calls Try.prog 53 #[.slice A0 l0.length c0] w fun e w' => e = .returned (.int .i64 r) ∧ Below w.heap.size w w' := by
 have HR0 := Aside0.mk hr0
 have HC0 := Aside0.mk hc0
 clear hr0 hc0
 have HB := Aside0.mk (Below.refl w.heap.size w)
 have H : (impl_greatest.l0 k 0 l0 (l0.length : Int) 0) = some r := h
 clear h
 have H' := Aside0.mk H
 clear H
 go_enter Try.func53, Try.ntmps53
 go_wp2
 go_loopg [3, 8] k (fun kq v3 v8 w' => ∃ (x3_1 : Int) (x8_1 : Int), v3 = .int .i64 x3_1 ∧ v8 = .int .i64 x8_1 ∧ Aside0 (impl_greatest.l0 kq x3_1 l0 (l0.length : Int) x8_1 = some r) ∧ Aside0 (kq ≤ k) ∧ Aside0 (Below w.heap.size w w'))
 case atStart => exact ⟨(0), (0), zF, zF, H', ⟨Nat.le_refl _⟩, ⟨zB⟩⟩
 clear H'
 obtain ⟨x3_1, x8_1, rfl, rfl, HA, HK1, HB⟩ := hrel
 cases gk with
 | zero => exact absurd HA.out (by simp [impl_greatest.l0])
 | succ k1 =>
   have H := HA.out
   clear HA
   simp only [impl_greatest.l0] at H
   by_cases c2 : x8_1 < (l0.length : Int)
   · rw [if_pos c2] at H
     have c2b0 : decide (x8_1 < (l0.length : Int)) = true := decide_eq_true c2
     clear c2
     by_cases c3 : 0 ≤ x8_1
     · rw [if_pos c3] at H
       have c3b0 : decide (0 ≤ x8_1) = true := decide_eq_true c3
       clear c3
       by_cases c4 : x8_1 < (l0.length : Int)
       · rw [if_pos c4] at H
         have c4b0 : decide (x8_1 < (l0.length : Int)) = true := decide_eq_true c4
         clear c4
         obtain ⟨ji5, hji5⟩ : ∃ j_ : Int, (mx x3_1 (rd l0 x8_1)) = j_ := ⟨_, rfl⟩
         replace H : (impl_greatest.l0 k1 ji5 l0 (l0.length : Int) (wrap64 (x8_1 + 1))) = some r := by first | (rw [hji5] at H; exact H) | (simp only [hji5] at H ⊢; exact H)
         have hji5_ : (if x3_1 < (rd l0 x8_1) then (rd l0 x8_1) else x3_1) = ji5 := hji5
         have H' := Aside0.mk H
         clear H
         have p101 : 0 ≤ (x8_1 : Int) := zD
         have q101 : x8_1 < (l0.length : Int) := zD
         obtain ⟨ad101, e101, hx101_0⟩ := Kd.at_int HR0.out x8_1 p101 q101
         cases e101
         replace hx101_0 := (HB.out.cell (World.block_lt_of_cell? w _ hx101_0)).trans hx101_0
         replace p101 := eq_true p101
         replace q101 := eq_true q101
         go_wp2
         go_roundg k1
         case measure => have := HK1.out; omega
         case rel => exact ⟨(ji5), (wrap64 (x8_1 + 1)), (by first | rfl | (simp; done) | (simp only [← hji5] <;> (first | rfl | simp)) | (simp [*]; done)), zF, H', ⟨by have := HK1.out; omega⟩, ⟨zB⟩⟩
       · rw [if_neg c4] at H
         exact absurd H (by simp)
     · rw [if_neg c3] at H
       exact absurd H (by simp)
   · rw [if_neg c2] at H
     have c2b0 : decide (x8_1 < (l0.length : Int)) = false := decide_eq_false c2
     clear c2
     obtain rfl := Option.some.inj H
     go_wp2
     go_ret
     exact ⟨zE, zB⟩
end Go.Proofs.Ytfmjckkgnieccaa.P
end
section
namespace Go.Proofs.Ytfmjckkgnieccaa.P
open Go.RowKit Go.Proofs.YtfmjckkgnieccaaW.PrintWords Go.Proofs.YtfmjckkgnieccaaW.PrintLast Go.Proofs.YtfmjckkgnieccaaW.PrintMore
attribute [local go_sem] max2_int min2_int max_two min_two max_three min_three max_four min_four   -- for this text's walks alone
set_option linter.unusedVariables false
set_option linter.unusedSimpArgs false
def impl_GreatestWaits.l0 : Nat → List Int → List Int → Int → Int → Option (List Int × Int)
  | 0, _, _, _, _ => none
  | k + 1, x0, x4, x11, x12 => if x12 < x11 then ((impl_waits.f k x0 x12).bind fun t103 => ((impl_greatest.f k t103).bind fun t106 => (if x4.length < 17592186044416 then (impl_GreatestWaits.l0 k x0 (x4 ++ [t106]) x11 (wrap64 (x12 + 1))) else (none)))) else (some (x4, 0))
def impl_GreatestWaits.f (k : Nat) (l0 : List Int) : Option (List Int × Int) := (impl_areTurns.f l0 8).bind fun t101 => (if t101 = true then ((slices_Max_Sint64_int64.f k l0).bind fun t102 => (impl_GreatestWaits.l0 k l0 ([] : List Int) (wrap64 (t102 + 1)) 0)) else (some (([] : List Int), 2)))
theorem impl_GreatestWaits.mono_l : ∀ k, (∀ y0 y1 y2 y3, LeO (impl_GreatestWaits.l0 k y0 y1 y2 y3) (impl_GreatestWaits.l0 (k + 1) y0 y1 y2 y3))
  | 0 => fun _ _ _ _ r h => by simp [impl_GreatestWaits.l0] at h
  | k + 1 => by
    have ih0 := impl_GreatestWaits.mono_l k
    · intro y0 y1 y2 y3
      unfold impl_GreatestWaits.l0
      repeat' first | (with_reducible exact ih0 _ _ _ _) | (with_reducible exact impl_greatest.mono _ _) | (with_reducible exact impl_waits.mono _ _ _) | (with_reducible exact slices_Max_Sint64_int64.mono _ _) | (with_reducible exact LeO.refl _) | (with_reducible exact LeO.none _) | (with_reducible refine LeO.ite ?_ ?_) | (with_reducible refine LeO.bind ?_ (fun _ => ?_)) | exact ih0 _ _ _ _ | exact impl_greatest.mono _ _ | exact impl_waits.mono _ _ _ | exact slices_Max_Sint64_int64.mono _ _ | exact LeO.none _ | refine LeO.ite ?_ ?_ | refine LeO.bind ?_ (fun _ => ?_)
theorem impl_GreatestWaits.mono : ∀ a0 k, LeO (impl_GreatestWaits.f k a0) (impl_GreatestWaits.f (k + 1) a0) := by
  intro a0 k
  have ih0 := impl_GreatestWaits.mono_l k
  unfold impl_GreatestWaits.f
  repeat' first | (with_reducible exact ih0 _ _ _ _) | (with_reducible exact impl_greatest.mono _ _) | (with_reducible exact impl_waits.mono _ _ _) | (with_reducible exact slices_Max_Sint64_int64.mono _ _) | (with_reducible exact LeO.refl _) | (with_reducible exact LeO.none _) | (with_reducible refine LeO.ite ?_ ?_) | (with_reducible refine LeO.bind ?_ (fun _ => ?_)) | exact ih0 _ _ _ _ | exact impl_greatest.mono _ _ | exact impl_waits.mono _ _ _ | exact slices_Max_Sint64_int64.mono _ _ | exact LeO.none _ | refine LeO.ite ?_ ?_ | refine LeO.bind ?_ (fun _ => ?_)
set_option maxHeartbeats 8000000 in
set_option maxRecDepth 100000 in
theorem impl_GreatestWaits.calls (k : Nat) (A0 : Option Addr) (c0 : Nat) (l0 : List Int) (r1 : List Int) (r2 : Int) (w : World) (hr0 : Kd.C (Kd.int .i64) w A0 l0.length l0) (hc0 : l0.length ≤ c0) (h : impl_GreatestWaits.f k l0 = some (r1, r2)) :
    Calls Try.prog 22 #[.slice A0 l0.length c0] w fun e w' => ∃ v0_ : Value, e = .returned (.tuple #[v0_, .int .i64 r2]) ∧ Kd.R (Kd.int .i64) 2 w' w.heap.size (fun _ => True) v0_ r1 ∧ Below w.heap.size w w' := by
 have HR0 := Aside0.mk hr0
 have HC0 := Aside0.mk hc0
 clear hr0 hc0
 have HB := Aside0.mk (Below.refl w.heap.size w)
 have H : ((impl_areTurns.f l0 8).bind fun t101 => (if t101 = true then ((slices_Max_Sint64_int64.f k l0).bind fun t102 => (impl_GreatestWaits.l0 k l0 ([] : List Int) (wrap64 (t102 + 1)) 0)) else (some (([] : List Int), 2)))) = some (r1, r2) := h
 clear h
 replace H := Option.bind_eq_some_iff.mp H
 obtain ⟨t101, A20, H⟩ := H
 replace H : (if t101 = true then ((slices_Max_Sint64_int64.f k l0).bind fun t102 => (impl_GreatestWaits.l0 k l0 ([] : List Int) (wrap64 (t102 + 1)) 0)) else (some (([] : List Int), 2))) = some (r1, r2) := H
 have A2 := Aside0.mk A20
 clear A20
 by_cases c3 : t101 = true
 ·
  subst c3
  have H1 : ((slices_Max_Sint64_int64.f k l0).bind fun t102 => (impl_GreatestWaits.l0 k l0 ([] : List Int) (wrap64 (t102 + 1)) 0)) = some (r1, r2) := by rw [if_pos rfl] at H; exact H
  clear H
  have H := H1
  clear H1
  replace H := Option.bind_eq_some_iff.mp H
  obtain ⟨t102, A40, H⟩ := H
  replace H : (impl_GreatestWaits.l0 k l0 ([] : List Int) (wrap64 (t102 + 1)) 0) = some (r1, r2) := H
  have A4 := Aside0.mk A40
  clear A40
  have H' := Aside0.mk H
  clear H
  go_enter Try.func22, Try.ntmps22
  go_wp2_with (first | ((with_reducible refine gate_callee (f := 37) rfl ?_); refine goesL_ (some 7) rfl rfl Try.func37 zk rfl #[.slice A0 l0.length c0, .int .i64 8] rfl zA ?_; (with_reducible refine (impl_areTurns.calls _ _ l0 8 true _ ?side1 ?side2 A2.out).mono ?_); (case side1 => exact zC HR0.out); (case side2 => exact HC0.out); rintro e w5 ⟨rfl, hb⟩; refine ⟨_, rfl, ?_⟩; replace HB := Aside0.mk (below_step (zB) hb); (try clear hb); (try clear hb2); (try clear hk); (try clear hi)) | ((with_reducible refine gate_callee (f := 44) rfl ?_); refine goesL_ (some 10) rfl rfl Try.func44 zk rfl #[.slice A0 l0.length c0] rfl zA ?_; (with_reducible refine (slices_Max_Sint64_int64.calls k _ _ l0 t102 _ ?side1 ?side2 A4.out).mono ?_); (case side1 => exact zC (Kd.C_below HR0.out HB.out)); (case side2 => exact HC0.out); rintro e w6 ⟨rfl, hb⟩; refine ⟨_, rfl, ?_⟩; replace HB := Aside0.mk (below_step (zB) hb); (try clear hb); (try clear hb2); (try clear hk); (try clear hi)))
  go_loopg [4, 12] k (fun kq v4 v12 w' => ∃ (x4_1 : List Int) (x12_1 : Int), v12 = .int .i64 x12_1 ∧ Aside0 (impl_GreatestWaits.l0 kq l0 x4_1 (wrap64 (t102 + 1)) x12_1 = some (r1, r2)) ∧ Aside0 (kq ≤ k) ∧ Aside0 (Kd.R (Kd.int .i64) 2 w' w.heap.size (fun _ => True) v4 x4_1) ∧ Aside0 (Below w.heap.size w w'))
  case atStart => exact ⟨(([] : List Int)), (0), zF, H', ⟨Nat.le_refl _⟩, ⟨zN⟩, ⟨zB⟩⟩
  clear H'
  try clear c3
  obtain ⟨x4_1, x12_1, rfl, HA, HK1, HO_4, HB⟩ := hrel
  cases gk with
  | zero => exact absurd HA.out (by simp [impl_GreatestWaits.l0])
  | succ k1 =>
    have H := HA.out
    clear HA
    simp only [impl_GreatestWaits.l0] at H
    by_cases c7 : x12_1 < (wrap64 (t102 + 1))
    · rw [if_pos c7] at H
      have c7b0 : decide (x12_1 < (wrap64 (t102 + 1))) = true := decide_eq_true c7
      clear c7
      replace H := Option.bind_eq_some_iff.mp H
      obtain ⟨t103, A80, H⟩ := H
      replace H : ((impl_greatest.f k1 t103).bind fun t106 => (if x4_1.length < 17592186044416 then (impl_GreatestWaits.l0 k1 l0 (x4_1 ++ [t106]) (wrap64 (t102 + 1)) (wrap64 (x12_1 + 1))) else (none))) = some (r1, r2) := H
      have A8 := Aside0.mk A80
      clear A80
      replace H := Option.bind_eq_some_iff.mp H
      obtain ⟨t106, A90, H⟩ := H
      replace H : (if x4_1.length < 17592186044416 then (impl_GreatestWaits.l0 k1 l0 (x4_1 ++ [t106]) (wrap64 (t102 + 1)) (wrap64 (x12_1 + 1))) else (none)) = some (r1, r2) := H
      have A9 := Aside0.mk A90
      clear A90
      by_cases c10 : x4_1.length < 17592186044416
      · rw [if_pos c10] at H
        have LMc10 := Aside0.mk c10
        clear c10
        obtain ⟨y107, hy107⟩ : ∃ y_ : List Int, y_ = (x4_1 ++ [t106]) := ⟨_, rfl⟩
        replace H : (impl_GreatestWaits.l0 k1 l0 y107 (wrap64 (t102 + 1)) (wrap64 (x12_1 + 1))) = some (r1, r2) := zH hy107
        have Ny107 := Aside0.mk hy107
        clear hy107
        have H' := Aside0.mk H
        clear H
        go_wp2_with (first | ((with_reducible refine gate_callee (f := 45) rfl ?_); refine goesL_ (some 18) rfl rfl Try.func45 zk rfl #[.slice A0 l0.length c0, .int .i64 x12_1] rfl zA ?_; (with_reducible refine (impl_waits.calls k1 _ _ l0 x12_1 t103 _ ?side1 ?side2 A8.out).mono ?_); (case side1 => exact zC (Kd.C_below HR0.out HB.out)); (case side2 => exact HC0.out); rintro e w11 ⟨v104, rfl, ho0, hb⟩; refine ⟨_, rfl, ?_⟩; have n_ := y3 (Kd.R_elder' (zR HO_4.out) (Kd.R_base ho0) hb) (Kd.R_lower (Kd.R_new' ho0 (Kd.R_lt (zR HO_4.out))) (below_size (zB))) (below_step (zB) hb); clear HO_4 HB; obtain ⟨HO_4, HO105, HB⟩ := n_; (try clear hb); (try clear hb2); (try clear hk); (try clear hi); (try clear ho0); obtain ⟨Ao12, co12, eo12⟩ := Kd.R_slice HO105.out; subst eo12) | ((with_reducible refine gate_callee (f := 53) rfl ?_); refine goesL_ (some 19) rfl rfl Try.func53 zk rfl #[.slice Ao12 t103.length co12] rfl zA ?_; (with_reducible refine (impl_greatest.calls k1 _ _ t103 t106 _ ?side1 ?side2 A9.out).mono ?_); (case side1 => exact zC (Kd.R_reads' HO105.out).2.2); (case side2 => exact (Kd.R_reads' HO105.out).2.1); rintro e w13 ⟨rfl, hb⟩; refine ⟨_, rfl, ?_⟩; have n_ := y3 (Kd.R_below (zR HO_4.out) hb) (Kd.R_below (zR HO105.out) hb) (below_step (zB) hb); clear HO_4 HO105 HB; obtain ⟨HO_4, HO105, HB⟩ := n_; (try clear hb); (try clear hb2); (try clear hk); (try clear hi)) | ((with_reducible refine gate_builtin (b := .append) (xs := #[.tmp 15, .tmp 20]) rfl ?_); at_builtin; refine Kd.R_append (Kd.int .i64) (w0 := w) w.heap.size rfl (.tmp 15) (.tmp 20) 24 2 (.int .i64 0) 8 rfl Try.underlying24 info2 rfl (by decide) (by omega) u4 x4_1 t106 [.int .i64 t106] (fun k_ => some k_ ≠ (.slice Ao12 t103.length co12 : Value).ownBlock) (fun _ => False) rfl rfl ?aP (fun _ hk => hk.elim) ?aF ?aO ?aB ?aS ?aL ?_; (case aP => exact rfl); (case aB => exact (zB)); (case aF => exact (fun k_ hk => Kd.fresh' (Kd.R_lt (zR HO105.out)) k_ hk)); (case aO => exact (by refine zR ?_; exact Kd.R_mono HO_4.out (fun _ hk => hk.2))); (case aS => exact (below_size (zB))); (case aL => have := LMc10.out; omega); intro v108 w14 ho hb hg hat; rw [← Ny107.out] at ho; have n_ := y3 (Kd.R_after (ok := (fun _ => True)) (zR HO105.out) hg hat) (hb) (ho); clear HO105 HB HO_4; obtain ⟨HO105, HB, HO109⟩ := n_; clear ho hb hg hat))
        go_roundg k1
        case measure => have := HK1.out; omega
        case rel => exact ⟨(y107), (wrap64 (x12_1 + 1)), zF, H', ⟨by have := HK1.out; omega⟩, ⟨by refine zR ?_; exact Kd.R_mono HO109.out (fun _ hk => trivial)⟩, ⟨zB⟩⟩
      · rw [if_neg c10] at H
        exact absurd H (by simp)
    · rw [if_neg c7] at H
      have c7b0 : decide (x12_1 < (wrap64 (t102 + 1))) = false := decide_eq_false c7
      clear c7
      simp only [Option.some.injEq, Prod.mk.injEq] at H
      obtain ⟨rfl, rfl⟩ := H
      go_wp2
      go_ret2
      exact ⟨_, zE, zR HO_4.out, zB⟩
 replace c3 := Bool.eq_false_iff.mpr c3
 subst c3
 have H1 : (some (([] : List Int), 2)) = some (r1, r2) := by rw [if_neg (show ¬ (false = true) by decide)] at H; exact H
 clear H
 have H := H1
 clear H1
 simp only [Option.some.injEq, Prod.mk.injEq] at H
 obtain ⟨rfl, rfl⟩ := H
 go_enter Try.func22, Try.ntmps22
 go_wp2_with (first | ((with_reducible refine gate_callee (f := 37) rfl ?_); refine goesL_ (some 7) rfl rfl Try.func37 zk rfl #[.slice A0 l0.length c0, .int .i64 8] rfl zA ?_; (with_reducible refine (impl_areTurns.calls _ _ l0 8 false _ ?side1 ?side2 A2.out).mono ?_); (case side1 => exact zC HR0.out); (case side2 => exact HC0.out); rintro e w15 ⟨rfl, hb⟩; refine ⟨_, rfl, ?_⟩; replace HB := Aside0.mk (below_step (zB) hb); (try clear hb); (try clear hb2); (try clear hk); (try clear hi)))
 go_ret2
 exact ⟨_, zE, zN, zB⟩
end Go.Proofs.Ytfmjckkgnieccaa.P
end
section
namespace Go.Proofs.Ytfmjckkgnieccaa.P
open Go.RowKit Go.Proofs.YtfmjckkgnieccaaW.PrintWords Go.Proofs.YtfmjckkgnieccaaW.PrintLast Go.Proofs.YtfmjckkgnieccaaW.PrintMore
attribute [local go_sem] max2_int min2_int max_two min_two max_three min_three max_four min_four   -- for this text's walks alone
set_option linter.unusedVariables false
set_option linter.unusedSimpArgs false
def spec_DrawSquaresOf.f (k : Nat) (l0 : List Int) : Option (List Int) := (spec_l07Any.f k l0).bind fun t101 => (some t101)
theorem spec_DrawSquaresOf.mono : ∀ a0 k, LeO (spec_DrawSquaresOf.f k a0) (spec_DrawSquaresOf.f (k + 1) a0) := by
  intro a0 k
  unfold spec_DrawSquaresOf.f
  repeat' first | (with_reducible exact spec_l07Any.mono _ _) | (with_reducible exact LeO.refl _) | (with_reducible exact LeO.none _) | (with_reducible refine LeO.ite ?_ ?_) | (with_reducible refine LeO.bind ?_ (fun _ => ?_)) | exact spec_l07Any.mono _ _ | exact LeO.none _ | refine LeO.ite ?_ ?_ | refine LeO.bind ?_ (fun _ => ?_)
set_option maxHeartbeats 8000000 in
set_option maxRecDepth 100000 in
theorem spec_DrawSquaresOf.calls (k : Nat) (A0 : Option Addr) (c0 : Nat) (l0 : List Int) (r : List Int) (w : World) (hr0 : Kd.C (Kd.int .u8) w A0 l0.length l0) (hc0 : l0.length ≤ c0) (h : spec_DrawSquaresOf.f k l0 = some r) :
    Calls Try.prog 23 #[.slice A0 l0.length c0] w fun e w' => ∃ v0_ : Value, e = .returned (v0_) ∧ Kd.R (Kd.int .i64) 2 w' w.heap.size (fun _ => True) v0_ r ∧ Below w.heap.size w w' := by
 have HR0 := Aside0.mk hr0
 have HC0 := Aside0.mk hc0
 clear hr0 hc0
 have HB := Aside0.mk (Below.refl w.heap.size w)
 have H : ((spec_l07Any.f k l0).bind fun t101 => (some t101)) = some r := h
 clear h
 replace H := Option.bind_eq_some_iff.mp H
 obtain ⟨t101, A20, H⟩ := H
 replace H : (some t101) = some r := H
 have A2 := Aside0.mk A20
 clear A20
 obtain rfl := Option.some.inj H
 go_enter Try.func23, Try.ntmps23
 go_wp2_with (first | ((with_reducible refine gate_callee (f := 43) rfl ?_); refine goesL_ (some 4) rfl rfl Try.func43 zk rfl #[.slice A0 l0.length c0] rfl zA ?_; (with_reducible refine (spec_l07Any.calls k _ _ l0 t101 _ ?side1 ?side2 A2.out).mono ?_); (case side1 => exact zC HR0.out); (case side2 => exact HC0.out); rintro e w3 ⟨v102, rfl, ho0, hb⟩; refine ⟨_, rfl, ?_⟩; have n_ := y2 (Kd.R_lower ho0 (below_size (zB))) (below_step (zB) hb); clear HB; obtain ⟨HO103, HB⟩ := n_; (try clear hb); (try clear hb2); (try clear hk); (try clear hi); (try clear ho0)))
 go_ret
 exact ⟨_, zE, zR HO103.out, zB⟩
end Go.Proofs.Ytfmjckkgnieccaa.P
end
section
namespace Go.Proofs.Ytfmjckkgnieccaa.P
open Go.RowKit Go.Proofs.YtfmjckkgnieccaaW.PrintWords Go.Proofs.YtfmjckkgnieccaaW.PrintLast Go.Proofs.YtfmjckkgnieccaaW.PrintMore
attribute [local go_sem] max2_int min2_int max_two min_two max_three min_three max_four min_four   -- for this text's walks alone
set_option linter.unusedVariables false
set_option linter.unusedSimpArgs false
mutual
def laws_FnExchanges.j0 : Nat → List Int → List Int → List Int → Int → Int → Int → Int → Int → Bool → Option (Bool)
  | 0, _, _, _, _, _, _, _, _, _ => none
  | k + 1, x0, x3, x4, x5, x8, x12, x13, x14, x122 => if x122 = true then (some false) else (if x5 = 0 then ((impl_SquaresOf.f k x4).bind fun bt124 => ((impl_BestExchange.f k x4).bind fun bt126 => (if bt124.2 = 0 then (if bt126.2.2 = 4 then (if bt124.1 > x8 then (laws_FnExchanges.j1 k x0 x3 x8 x12 x13 x14 bt124.1 true) else (laws_FnExchanges.j1 k x0 x3 x8 x12 x13 x14 bt124.1 ((decide (bt124.1 < x8)) != (x14 == 0)))) else (laws_FnExchanges.j1 k x0 x3 x8 x12 x13 x14 bt124.1 true)) else (laws_FnExchanges.j1 k x0 x3 x8 x12 x13 x14 bt124.1 true)))) else (laws_FnExchanges.j2 k x0))
def laws_FnExchanges.j2 : Nat → List Int → Option (Bool)
  | 0, _ => none
  | k + 1, x0 => (spec_DrawExchangeSlots.f k x0).bind fun bt135 => ((impl_ExchangeSlots.f bt135.1 bt135.2.1 bt135.2.2).bind fun bt140 => ((spec_ExchangeSlots.f k bt135.1 bt135.2.1 bt135.2.2).bind fun bt144 => (if bt140.2 = bt144.2 then ((laws_likeInts.f k bt140.1 bt144.1).bind fun t148 => (laws_FnExchanges.j3 k x0 bt135.1 bt135.2.1 bt135.2.2 bt140.1 bt140.2 (!t148))) else (laws_FnExchanges.j3 k x0 bt135.1 bt135.2.1 bt135.2.2 bt140.1 bt140.2 true))))
def laws_FnExchanges.j3 : Nat → List Int → List Int → Int → Int → List Int → Int → Bool → Option (Bool)
  | 0, _, _, _, _, _, _, _ => none
  | k + 1, x0, x27, x28, x29, x30, x31, x213 => if x213 = true then (some false) else (if x31 = 0 then ((impl_ExchangeSlots.f x30 x29 x28).bind fun bt149 => (if bt149.2 = 0 then ((laws_likeInts.f k bt149.1 x27).bind fun t153 => (if t153 = true then (laws_FnExchanges.j4 k x0) else (some false))) else (some false))) else (laws_FnExchanges.j4 k x0))
def laws_FnExchanges.j4 : Nat → List Int → Option (Bool)
  | 0, _ => none
  | k + 1, x0 => (spec_DrawSpreadsOf.f k x0).bind fun t154 => ((impl_SpreadsOf.f k t154).bind fun bt157 => ((spec_SpreadsOf.f k t154).bind fun bt161 => ((impl_GreatestDifference.f k t154).bind fun bt165 => ((spec_GreatestDifference.f k t154).bind fun bt167 => (if bt157.2 = bt161.2 then ((laws_rows5.f k bt157.1 bt161.1).bind fun t169 => (if t169 = true then (if bt165.2 = bt167.2 then (laws_FnExchanges.j5 k x0 t154 bt157.1 bt157.2 (bt165.1 != bt167.1)) else (laws_FnExchanges.j5 k x0 t154 bt157.1 bt157.2 true)) else (laws_FnExchanges.j5 k x0 t154 bt157.1 bt157.2 true))) else (laws_FnExchanges.j5 k x0 t154 bt157.1 bt157.2 true))))))
def laws_FnExchanges.j5 : Nat → List Int → List Int → List (List Int) → Int → Bool → Option (Bool)
  | 0, _, _, _, _, _ => none
  | k + 1, x0, x36, x37, x38, x271 => if x271 = true then (some false) else (if x38 = 0 then ((impl_GreatestWaits.f k x36).bind fun bt170 => (if bt170.2 = 0 then (laws_FnExchanges.j6 k x0 x37 bt170.1 ((bt170.1.length : Int) != (x37.length : Int))) else (laws_FnExchanges.j6 k x0 x37 bt170.1 true))) else ((spec_DrawSquaresOf.f k x0).bind fun t188 => ((impl_SquaresOf.f k t188).bind fun bt191 => ((spec_SquaresOf.f k t188).bind fun bt193 => (if bt191.2 = bt193.2 then (some (bt191.1 == bt193.1)) else (some false))))))
def laws_FnExchanges.j6 : Nat → List Int → List (List Int) → List Int → Bool → Option (Bool)
  | 0, _, _, _, _ => none
  | k + 1, x0, x37, x45, x287 => if x287 = true then (some false) else (laws_FnExchanges.l0 k x0 x37 x45 (x45.length : Int) 0)
def laws_FnExchanges.l0 : Nat → List Int → List (List Int) → List Int → Int → Int → Option (Bool)
  | 0, _, _, _, _, _ => none
  | k + 1, x0, x37, x45, x289, x290 => if x290 < x289 then (if 0 ≤ x290 then (if x290 < (x37.length : Int) then (if 1 < ((rd_L2 x37 x290).length : Int) then (if x290 < (x45.length : Int) then (if (rd (rd_L2 x37 x290) 1) = (rd x45 x290) then (if 0 < ((rd_L2 x37 x290).length : Int) then (if (rd (rd_L2 x37 x290) 0) > (rd (rd_L2 x37 x290) 1) then (some false) else (laws_FnExchanges.l0 k x0 x37 x45 x289 (wrap64 (x290 + 1)))) else (none)) else (some false)) else (none)) else (none)) else (none)) else (none)) else ((spec_DrawSquaresOf.f k x0).bind fun t181 => ((impl_SquaresOf.f k t181).bind fun bt184 => ((spec_SquaresOf.f k t181).bind fun bt186 => (if bt184.2 = bt186.2 then (some (bt184.1 == bt186.1)) else (some false)))))
def laws_FnExchanges.j1 : Nat → List Int → List Int → Int → Int → Int → Int → Int → Bool → Option (Bool)
  | 0, _, _, _, _, _, _, _, _ => none
  | k + 1, x0, x3, x8, x12, x13, x14, x18, x154 => if x154 = true then (some false) else (if x14 = 0 then ((impl_ExchangeSlots.f x3 x12 x13).bind fun bt129 => ((impl_SquaresOf.f k bt129.1).bind fun bt133 => (if bt129.2 = 0 then (if bt133.2 = 0 then (if bt133.1 ≥ x8 then (some false) else (if bt133.1 < x18 then (some false) else (laws_FnExchanges.j2 k x0))) else (some false)) else (some false)))) else (laws_FnExchanges.j2 k x0))
end
def laws_FnExchanges.f (k : Nat) (l0 : List Int) : Option (Bool) := (laws_big.f l0).bind fun t101 => (if t101 = true then (some true) else ((spec_DrawSmoothTurns.f k l0).bind fun t102 => ((impl_SmoothTurns.f k t102).bind fun bt105 => ((spec_SmoothTurns.f k t102).bind fun bt109 => ((impl_SquaresOf.f k t102).bind fun bt113 => ((spec_SquaresOf.f k t102).bind fun bt115 => ((impl_BestExchange.f k t102).bind fun bt117 => ((spec_BestExchange.f k t102).bind fun bt120 => (if bt105.2 = bt109.2 then ((laws_likeInts.f k bt105.1 bt109.1).bind fun t123 => (if t123 = true then (if bt113.2 = bt115.2 then (if bt113.1 = bt115.1 then (if bt117.2.2 = bt120.2.2 then (if bt117.1 = bt120.1 then (laws_FnExchanges.j0 k l0 t102 bt105.1 bt105.2 bt113.1 bt117.1 bt117.2.1 bt117.2.2 (bt117.2.1 != bt120.2.1)) else (laws_FnExchanges.j0 k l0 t102 bt105.1 bt105.2 bt113.1 bt117.1 bt117.2.1 bt117.2.2 true)) else (laws_FnExchanges.j0 k l0 t102 bt105.1 bt105.2 bt113.1 bt117.1 bt117.2.1 bt117.2.2 true)) else (laws_FnExchanges.j0 k l0 t102 bt105.1 bt105.2 bt113.1 bt117.1 bt117.2.1 bt117.2.2 true)) else (laws_FnExchanges.j0 k l0 t102 bt105.1 bt105.2 bt113.1 bt117.1 bt117.2.1 bt117.2.2 true)) else (laws_FnExchanges.j0 k l0 t102 bt105.1 bt105.2 bt113.1 bt117.1 bt117.2.1 bt117.2.2 true))) else (laws_FnExchanges.j0 k l0 t102 bt105.1 bt105.2 bt113.1 bt117.1 bt117.2.1 bt117.2.2 true))))))))))
theorem laws_FnExchanges.mono_l : ∀ k, (∀ y0 y1 y2 y3 y4 y5 y6 y7 y8, LeO (laws_FnExchanges.j0 k y0 y1 y2 y3 y4 y5 y6 y7 y8) (laws_FnExchanges.j0 (k + 1) y0 y1 y2 y3 y4 y5 y6 y7 y8)) ∧ (∀ y0, LeO (laws_FnExchanges.j2 k y0) (laws_FnExchanges.j2 (k + 1) y0)) ∧ (∀ y0 y1 y2 y3 y4 y5 y6, LeO (laws_FnExchanges.j3 k y0 y1 y2 y3 y4 y5 y6) (laws_FnExchanges.j3 (k + 1) y0 y1 y2 y3 y4 y5 y6)) ∧ (∀ y0, LeO (laws_FnExchanges.j4 k y0) (laws_FnExchanges.j4 (k + 1) y0)) ∧ (∀ y0 y1 y2 y3 y4, LeO (laws_FnExchanges.j5 k y0 y1 y2 y3 y4) (laws_FnExchanges.j5 (k + 1) y0 y1 y2 y3 y4)) ∧ (∀ y0 y1 y2 y3, LeO (laws_FnExchanges.j6 k y0 y1 y2 y3) (laws_FnExchanges.j6 (k + 1) y0 y1 y2 y3)) ∧ (∀ y0 y1 y2 y3 y4, LeO (laws_FnExchanges.l0 k y0 y1 y2 y3 y4) (laws_FnExchanges.l0 (k + 1) y0 y1 y2 y3 y4)) ∧ (∀ y0 y1 y2 y3 y4 y5 y6 y7, LeO (laws_FnExchanges.j1 k y0 y1 y2 y3 y4 y5 y6 y7) (laws_FnExchanges.j1 (k + 1) y0 y1 y2 y3 y4 y5 y6 y7))
  | 0 => ⟨fun _ _ _ _ _ _ _ _ _ r h => by simp [laws_FnExchanges.j0] at h, fun _ r h => by simp [laws_FnExchanges.j2] at h, fun _ _ _ _ _ _ _ r h => by simp [laws_FnExchanges.j3] at h, fun _ r h => by simp [laws_FnExchanges.j4] at h, fun _ _ _ _ _ r h => by simp [laws_FnExchanges.j5] at h, fun _ _ _ _ r h => by simp [laws_FnExchanges.j6] at h, fun _ _ _ _ _ r h => by simp [laws_FnExchanges.l0] at h, fun _ _ _ _ _ _ _ _ r h => by simp [laws_FnExchanges.j1] at h⟩
  | k + 1 => by
    obtain ⟨ih0, ih1, ih2, ih3, ih4, ih5, ih6, ih7⟩ := laws_FnExchanges.mono_l k
    refine ⟨?_, ?_, ?_, ?_, ?_, ?_, ?_, ?_⟩ <;> intros <;> (first | unfold laws_FnExchanges.j0 | unfold laws_FnExchanges.j2 | unfold laws_FnExchanges.j3 | unfold laws_FnExchanges.j4 | unfold laws_FnExchanges.j5 | unfold laws_FnExchanges.j6 | unfold laws_FnExchanges.l0 | unfold laws_FnExchanges.j1) <;> repeat' first | (with_reducible exact ih0 _ _ _ _ _ _ _ _ _) | (with_reducible exact ih1 _) | (with_reducible exact ih2 _ _ _ _ _ _ _) | (with_reducible exact ih3 _) | (with_reducible exact ih4 _ _ _ _ _) | (with_reducible exact ih5 _ _ _ _) | (with_reducible exact ih6 _ _ _ _ _) | (with_reducible exact ih7 _ _ _ _ _ _ _ _) | (with_reducible exact impl_BestExchange.mono _ _) | (with_reducible exact impl_GreatestDifference.mono _ _) | (with_reducible exact impl_GreatestWaits.mono _ _) | (with_reducible exact impl_SmoothTurns.mono _ _) | (with_reducible exact impl_SpreadsOf.mono _ _) | (with_reducible exact impl_SquaresOf.mono _ _) | (with_reducible exact laws_likeInts.mono _ _ _) | (with_reducible exact laws_rows5.mono _ _ _) | (with_reducible exact spec_BestExchange.mono _ _) | (with_reducible exact spec_DrawExchangeSlots.mono _ _) | (with_reducible exact spec_DrawSmoothTurns.mono _ _) | (with_reducible exact spec_DrawSpreadsOf.mono _ _) | (with_reducible exact spec_DrawSquaresOf.mono _ _) | (with_reducible exact spec_ExchangeSlots.mono _ _ _ _) | (with_reducible exact spec_GreatestDifference.mono _ _) | (with_reducible exact spec_SmoothTurns.mono _ _) | (with_reducible exact spec_SpreadsOf.mono _ _) | (with_reducible exact spec_SquaresOf.mono _ _) | (with_reducible exact LeO.refl _) | (with_reducible exact LeO.none _) | (with_reducible refine LeO.ite ?_ ?_) | (with_reducible refine LeO.bind ?_ (fun _ => ?_)) | exact ih0 _ _ _ _ _ _ _ _ _ | exact ih1 _ | exact ih2 _ _ _ _ _ _ _ | exact ih3 _ | exact ih4 _ _ _ _ _ | exact ih5 _ _ _ _ | exact ih6 _ _ _ _ _ | exact ih7 _ _ _ _ _ _ _ _ | exact impl_BestExchange.mono _ _ | exact impl_GreatestDifference.mono _ _ | exact impl_GreatestWaits.mono _ _ | exact impl_SmoothTurns.mono _ _ | exact impl_SpreadsOf.mono _ _ | exact impl_SquaresOf.mono _ _ | exact laws_likeInts.mono _ _ _ | exact laws_rows5.mono _ _ _ | exact spec_BestExchange.mono _ _ | exact spec_DrawExchangeSlots.mono _ _ | exact spec_DrawSmoothTurns.mono _ _ | exact spec_DrawSpreadsOf.mono _ _ | exact spec_DrawSquaresOf.mono _ _ | exact spec_ExchangeSlots.mono _ _ _ _ | exact spec_GreatestDifference.mono _ _ | exact spec_SmoothTurns.mono _ _ | exact spec_SpreadsOf.mono _ _ | exact spec_SquaresOf.mono _ _ | exact LeO.none _ | refine LeO.ite ?_ ?_ | refine LeO.bind ?_ (fun _ => ?_)
theorem laws_FnExchanges.mono : ∀ a0 k, LeO (laws_FnExchanges.f k a0) (laws_FnExchanges.f (k + 1) a0) := by
  intro a0 k
  obtain ⟨ih0, ih1, ih2, ih3, ih4, ih5, ih6, ih7⟩ := laws_FnExchanges.mono_l k
  unfold laws_FnExchanges.f
  repeat' first | (with_reducible exact ih0 _ _ _ _ _ _ _ _ _) | (with_reducible exact ih1 _) | (with_reducible exact ih2 _ _ _ _ _ _ _) | (with_reducible exact ih3 _) | (with_reducible exact ih4 _ _ _ _ _) | (with_reducible exact ih5 _ _ _ _) | (with_reducible exact ih6 _ _ _ _ _) | (with_reducible exact ih7 _ _ _ _ _ _ _ _) | (with_reducible exact impl_BestExchange.mono _ _) | (with_reducible exact impl_GreatestDifference.mono _ _) | (with_reducible exact impl_GreatestWaits.mono _ _) | (with_reducible exact impl_SmoothTurns.mono _ _) | (with_reducible exact impl_SpreadsOf.mono _ _) | (with_reducible exact impl_SquaresOf.mono _ _) | (with_reducible exact laws_likeInts.mono _ _ _) | (with_reducible exact laws_rows5.mono _ _ _) | (with_reducible exact spec_BestExchange.mono _ _) | (with_reducible exact spec_DrawExchangeSlots.mono _ _) | (with_reducible exact spec_DrawSmoothTurns.mono _ _) | (with_reducible exact spec_DrawSpreadsOf.mono _ _) | (with_reducible exact spec_DrawSquaresOf.mono _ _) | (with_reducible exact spec_ExchangeSlots.mono _ _ _ _) | (with_reducible exact spec_GreatestDifference.mono _ _) | (with_reducible exact spec_SmoothTurns.mono _ _) | (with_reducible exact spec_SpreadsOf.mono _ _) | (with_reducible exact spec_SquaresOf.mono _ _) | (with_reducible exact LeO.refl _) | (with_reducible exact LeO.none _) | (with_reducible refine LeO.ite ?_ ?_) | (with_reducible refine LeO.bind ?_ (fun _ => ?_)) | exact ih0 _ _ _ _ _ _ _ _ _ | exact ih1 _ | exact ih2 _ _ _ _ _ _ _ | exact ih3 _ | exact ih4 _ _ _ _ _ | exact ih5 _ _ _ _ | exact ih6 _ _ _ _ _ | exact ih7 _ _ _ _ _ _ _ _ | exact impl_BestExchange.mono _ _ | exact impl_GreatestDifference.mono _ _ | exact impl_GreatestWaits.mono _ _ | exact impl_SmoothTurns.mono _ _ | exact impl_SpreadsOf.mono _ _ | exact impl_SquaresOf.mono _ _ | exact laws_likeInts.mono _ _ _ | exact laws_rows5.mono _ _ _ | exact spec_BestExchange.mono _ _ | exact spec_DrawExchangeSlots.mono _ _ | exact spec_DrawSmoothTurns.mono _ _ | exact spec_DrawSpreadsOf.mono _ _ | exact spec_DrawSquaresOf.mono _ _ | exact spec_ExchangeSlots.mono _ _ _ _ | exact spec_GreatestDifference.mono _ _ | exact spec_SmoothTurns.mono _ _ | exact spec_SpreadsOf.mono _ _ | exact spec_SquaresOf.mono _ _ | exact LeO.none _ | refine LeO.ite ?_ ?_ | refine LeO.bind ?_ (fun _ => ?_)
end Go.Proofs.Ytfmjckkgnieccaa.P
end
