/- Lessened gaps are at most the gaps, harmonic turns serve their tasks, and turns by powers and by one number serve. -/
import Derived.Test.YtgbapmmfhdphmaaCFnHarmonic4
section
namespace Go.Proofs.Ytgbapmmfhdphmaa.P
open Go.RowKit Go.Proofs.YtgbapmmfhdphmaaW.PrintWords Go.Proofs.YtgbapmmfhdphmaaW.PrintLast Go.Proofs.YtgbapmmfhdphmaaW.PrintMore
attribute [local go_sem] max2_int min2_int max_two min_two max_three min_three max_four min_four   -- for this text's walks alone
set_option linter.unusedVariables false
set_option linter.unusedSimpArgs false
mutual
def spec_l01Sorted.l0 : Nat → List Int → Int → List Int → Option (List Int × List Int)
  | 0, _, _, _ => none
  | k + 1, x4, x5, x102000 => (spec_l01K.f x102000).bind fun t106 => (if x5 < t106 then (if x4.length < 17592186044416 then (spec_l01Sorted.l1 k (x4 ++ [x5]) x5 (x4.length : Int) x102000) else (none)) else (spec_l01Sorted.l2 k x4 0 x102000 (([] : List Int))))
def spec_l01Sorted.l1 : Nat → List Int → Int → Int → List Int → Option (List Int × List Int)
  | 0, _, _, _, _ => none
  | k + 1, x4, x5, x6, x102000 => if x6 > 0 then (if 0 ≤ (wrap64 (x6 - 1)) then (if (wrap64 (x6 - 1)) < (x4.length : Int) then (if 0 ≤ (rd x4 (wrap64 (x6 - 1))) then (if (rd x4 (wrap64 (x6 - 1))) < (x102000.length : Int) then (if 0 ≤ x5 then (if x5 < (x102000.length : Int) then (if (rd x102000 (rd x4 (wrap64 (x6 - 1)))) > (rd x102000 x5) then (if 0 ≤ x6 then (if x6 < (x4.length : Int) then (spec_l01Sorted.l1 k (x4.set (x6 : Int).toNat (rd x4 (wrap64 (x6 - 1)))) x5 (wrap64 (x6 - 1)) x102000) else (none)) else (none)) else (if 0 ≤ x6 then (if x6 < (x4.length : Int) then (spec_l01Sorted.l0 k (x4.set (x6 : Int).toNat x5) (wrap64 (x5 + 1)) x102000) else (none)) else (none))) else (none)) else (none)) else (none)) else (none)) else (none)) else (none)) else (if 0 ≤ x6 then (if x6 < (x4.length : Int) then (spec_l01Sorted.l0 k (x4.set (x6 : Int).toNat x5) (wrap64 (x5 + 1)) x102000) else (none)) else (none))
def spec_l01Sorted.l2 : Nat → List Int → Int → List Int → List Int → Option (List Int × List Int)
  | 0, _, _, _, _ => none
  | k + 1, x4, x8, x102000, x121000 => if x8 < (x4.length : Int) then (if 0 ≤ x8 then (if 0 ≤ (rd x4 x8) then (if (rd x4 x8) < (x102000.length : Int) then (if x121000.length < 17592186044416 then (spec_l01Sorted.l2 k x4 (wrap64 (x8 + 1)) x102000 (x121000 ++ [rd x102000 (rd x4 x8)])) else (none)) else (none)) else (none)) else (none)) else (some (x121000, x4))
end
def spec_l01Sorted.f (k : Nat) (l0_0 : List Int) : Option (List Int × List Int) := spec_l01Sorted.l0 k (([] : List Int)) 0 l0_0
theorem spec_l01Sorted.mono_l : ∀ k, (∀ y0 y1 y2, LeO (spec_l01Sorted.l0 k y0 y1 y2) (spec_l01Sorted.l0 (k + 1) y0 y1 y2)) ∧ (∀ y0 y1 y2 y3, LeO (spec_l01Sorted.l1 k y0 y1 y2 y3) (spec_l01Sorted.l1 (k + 1) y0 y1 y2 y3)) ∧ (∀ y0 y1 y2 y3, LeO (spec_l01Sorted.l2 k y0 y1 y2 y3) (spec_l01Sorted.l2 (k + 1) y0 y1 y2 y3))
  | 0 => ⟨fun _ _ _ r h => by simp [spec_l01Sorted.l0] at h, fun _ _ _ _ r h => by simp [spec_l01Sorted.l1] at h, fun _ _ _ _ r h => by simp [spec_l01Sorted.l2] at h⟩
  | k + 1 => by
    obtain ⟨ih0, ih1, ih2⟩ := spec_l01Sorted.mono_l k
    refine ⟨?_, ?_, ?_⟩ <;> intros <;> (first | unfold spec_l01Sorted.l0 | unfold spec_l01Sorted.l1 | unfold spec_l01Sorted.l2) <;> repeat' first | (with_reducible exact ih0 _ _ _) | (with_reducible exact ih1 _ _ _ _) | (with_reducible exact ih2 _ _ _ _) | (with_reducible exact LeO.refl _) | (with_reducible exact LeO.none _) | (with_reducible refine LeO.ite ?_ ?_) | (with_reducible refine LeO.bind ?_ (fun _ => ?_)) | exact ih0 _ _ _ | exact ih1 _ _ _ _ | exact ih2 _ _ _ _ | exact LeO.none _ | refine LeO.ite ?_ ?_ | refine LeO.bind ?_ (fun _ => ?_)
theorem spec_l01Sorted.mono : ∀ a0 k, LeO (spec_l01Sorted.f k a0) (spec_l01Sorted.f (k + 1) a0) := by
  intro a0 k
  obtain ⟨ih0, ih1, ih2⟩ := spec_l01Sorted.mono_l k
  unfold spec_l01Sorted.f
  repeat' first | (with_reducible exact ih0 _ _ _) | (with_reducible exact ih1 _ _ _ _) | (with_reducible exact ih2 _ _ _ _) | (with_reducible exact LeO.refl _) | (with_reducible exact LeO.none _) | (with_reducible refine LeO.ite ?_ ?_) | (with_reducible refine LeO.bind ?_ (fun _ => ?_)) | exact ih0 _ _ _ | exact ih1 _ _ _ _ | exact ih2 _ _ _ _ | exact LeO.none _ | refine LeO.ite ?_ ?_ | refine LeO.bind ?_ (fun _ => ?_)
def spec_l01Sorted.T7 : Bool × List (List Nat × List Nat) := (true, [([], []), ([0], [0]), ([1], [1]), ([2], [2]), ([3, 2], [2, 3]), ([2], [2]), ([2], [2]), ([6, 2], [2, 6]), ([5, 7, 2], [2, 5, 7]), ([8, 2], [2, 8]), ([4, 9, 2], [2, 4, 9]), ([10, 2], [2, 10]), ([2], [2]), ([12, 2], [2, 12]), ([2], [2]), ([13, 14, 2], [2, 13, 14]), ([15, 2], [2, 15]), ([11, 16, 2], [2, 11, 16]), ([2, 17], [2, 17])])
def spec_l01Sorted.B7 : List Nat := [0, 1, 3, 7, 15, 7, 7, 71, 231, 487, 1023, 2047, 7, 4103, 7, 28679, 61447, 131071, 262143]
theorem spec_l01Sorted.tab7 : rtab .any (opsOf Try.f56 7) = spec_l01Sorted.T7 := by kernel_rfl
theorem spec_l01Sorted.bits7 : waitsOk spec_l01Sorted.T7.2 spec_l01Sorted.B7 = true := by kernel_rfl
def spec_l01Sorted.T15 : Bool × List (List Nat × List Nat) := (true, [([], []), ([0], [0]), ([], []), ([2], [2]), ([], []), ([], []), ([4, 5], [4, 5]), ([6], [6]), ([3, 7], [3, 7]), ([8], [8]), ([9], [9]), ([1, 10], [1, 10]), ([0, 1, 2, 3, 4, 5, 6, 7, 8, 9, 10, 11], []), ([12, 11, 11, 0, 1, 2, 3, 4, 5, 6, 7, 8, 9, 10, 11], [11, 12])])
def spec_l01Sorted.B15 : List Nat := [0, 1, 0, 4, 0, 0, 48, 112, 252, 508, 1020, 2047, 4095, 8191]
theorem spec_l01Sorted.tab15 : rtab .any (opsOf Try.f56 15) = spec_l01Sorted.T15 := by kernel_rfl
theorem spec_l01Sorted.bits15 : waitsOk spec_l01Sorted.T15.2 spec_l01Sorted.B15 = true := by kernel_rfl
set_option maxHeartbeats 8000000 in
set_option maxRecDepth 100000 in
theorem spec_l01Sorted.calls (k : Nat) (A0_0 : Option Addr) (c0_0 : Nat) (l0_0 : List Int) (r1 : List Int) (r2 : List Int) (w : World) (hr0_0 : Kd.C (Kd.int .i64) w A0_0 l0_0.length l0_0) (hc0_0 : l0_0.length ≤ c0_0) (h : spec_l01Sorted.f k l0_0 = some (r1, r2)) :
    Calls Try.prog 56 #[.agg #[.slice A0_0 l0_0.length c0_0]] w fun e w' => ∃ v0_ v1_ : Value, e = .returned (.tuple #[.agg #[v0_], v1_]) ∧ Kd.R (Kd.int .i64) 2 w' w.heap.size (fun k_ => some k_ ≠ (v1_ : Value).ownBlock) v0_ r1 ∧ Kd.R (Kd.int .i64) 2 w' w.heap.size (fun k_ => some k_ ≠ (v0_ : Value).ownBlock) v1_ r2 ∧ Below w.heap.size w w' := by
 have hu26 := Try.underlying26
 have HR0_0 := Aside0.mk hr0_0
 have HC0_0 := Aside0.mk hc0_0
 clear hr0_0 hc0_0
 have HB := Aside0.mk (Below.refl w.heap.size w)
 have H : (spec_l01Sorted.l0 k (([] : List Int)) 0 l0_0) = some (r1, r2) := h
 clear h
 obtain ⟨y103, hy103⟩ : ∃ y_ : List Int, y_ = (([] : List Int)) := ⟨_, rfl⟩
 replace H : (spec_l01Sorted.l0 k y103 0 l0_0) = some (r1, r2) := zH hy103
 have Ny103 := Aside0.mk hy103
 clear hy103
 have H' := Aside0.mk H
 clear H
 go_enter Try.func56, Try.ntmps56
 go_wp2_with (first | ((with_reducible refine gate_dst (N := 1) rfl ?_); refine box_event zr (N := 1) zr (cs := #[.slice A0_0 l0_0.length c0_0]) (t := 26) zg ?_; intro gb101 hg w2 hbox hb; have n_ := y4 (below_step (zB) hb) (hbox) ((zS hg : w.heap.size ≤ gb101)) ((zS hg : w.heap.size ≤ gb101)); clear HB; obtain ⟨HB, BK101, GW101, GE101⟩ := n_; clear hb hbox hg) | ((with_reducible refine gate_dst (N := 2) rfl ?_); refine box_event zr (N := 2) zr (cs := #[.slice none 0 0]) (t := 26) zg ?_; intro gb102 hg w3 hbox hb; have n_ := y7 (zb BK101.out hb) (below_step (zB) hb) (hbox) ((zS hg : w.heap.size ≤ gb102)) ((zS hg : w.heap.size ≤ gb102)) ((zL hg BK101.out : gb101 ≠ gb102)) ((zM hg BK101.out : gb102 ≠ gb101)); clear BK101 HB; obtain ⟨BK101, HB, BK102, GW102, GE102, NB101_102, NB102_101⟩ := n_; clear hb hbox hg) | ((with_reducible refine gate_dst (N := 9) rfl ?_); refine Kd.R_lit (Kd.int .i64) _ 2 ?hg (N := 9) ?hd (xs := ([] : List Int)) (inner := []) (ok := fun _ => True) (okp := fun _ => True) ?hr ?hp (fun _ hk => hk) trivial (Below.refl _ _) (Nat.le_refl _) (by simp) ?_; (case hd => rfl); (case hg => rfl); (case hr => first | (go_simp; done) | (go_simp; rfl)); (case hp => exact (Reps.none _ _)); intro v104 w4 ho5 hb hg_ hnew_; clear hg_ hnew_; (first | rw [← Ny103.out] at ho5 | (simp only [Int.reduceToNat] at ho5; rw [← Ny103.out] at ho5)); have n_ := y4 (Kd.R_lower ho5 (below_size (zB))) (zb BK101.out hb) (zb BK102.out hb) (below_step (zB) hb); clear BK101 BK102 HB; obtain ⟨HO105, BK101, BK102, HB⟩ := n_; clear hb ho5))
 go_loopg [4, 5] k (fun kq v4 v5 w' => ∃ (x4_1 : List Int) (x5_1 : Int), v5 = .int .i64 x5_1 ∧ Aside0 (spec_l01Sorted.l0 kq x4_1 x5_1 l0_0 = some (r1, r2)) ∧ Aside0 (kq ≤ k) ∧ Aside0 (Kd.R (Kd.int .i64) 2 w' w.heap.size (fun _ => True) v4 x4_1) ∧ Aside0 (w'.heap[gb101]? = some (.cells #[(.slice A0_0 l0_0.length c0_0)] 26 (0, 0))) ∧ Aside0 (w'.heap[gb102]? = some (.cells #[(.slice none 0 0)] 26 (0, 0))) ∧ Aside0 (Below w.heap.size w w'))
 case atStart => exact ⟨(y103), (0), zF, H', ⟨Nat.le_refl _⟩, ⟨zR HO105.out⟩, ⟨zG BK101.out⟩, ⟨zG BK102.out⟩, ⟨zB⟩⟩
 clear H'
 obtain ⟨x4_1, x5_1, rfl, HA, HK1, HO_4, BK101, BK102, HB⟩ := hrel
 cases gk with
 | zero => exact absurd HA.out (by simp [spec_l01Sorted.l0])
 | succ k1 =>
   have H := HA.out
   clear HA
   simp only [spec_l01Sorted.l0] at H
   replace H := Option.bind_eq_some_iff.mp H
   obtain ⟨t106, A60, H⟩ := H
   replace H : (if x5_1 < t106 then (if x4_1.length < 17592186044416 then (spec_l01Sorted.l1 k1 (x4_1 ++ [x5_1]) x5_1 (x4_1.length : Int) l0_0) else (none)) else (spec_l01Sorted.l2 k1 x4_1 0 l0_0 (([] : List Int)))) = some (r1, r2) := H
   have A6 := Aside0.mk A60
   clear A60
   by_cases c7 : x5_1 < t106
   · rw [if_pos c7] at H
     have c7b0 : decide (x5_1 < t106) = true := decide_eq_true c7
     clear c7
     by_cases c8 : x4_1.length < 17592186044416
     · rw [if_pos c8] at H
       have LMc8 := Aside0.mk c8
       clear c8
       obtain ⟨y107, hy107⟩ : ∃ y_ : List Int, y_ = (x4_1 ++ [x5_1]) := ⟨_, rfl⟩
       replace H : (spec_l01Sorted.l1 k1 y107 x5_1 (x4_1.length : Int) l0_0) = some (r1, r2) := zH hy107
       have Ny107 := Aside0.mk hy107
       clear hy107
       have H' := Aside0.mk H
       clear H
       have hnb9 := NB101_102.out
       have hnc9 := NB102_101.out
       have hcz10_0 := zc BK101.out
       have hfz10_0 := blk_frozen BK101.out 0
       go_wp2_with (first | ((with_reducible refine gate_callee (f := 46) rfl ?_); refine goesL_ (some 12) rfl rfl Try.func46 zk rfl #[.agg #[.slice A0_0 l0_0.length c0_0]] rfl zA ?_; (with_reducible refine (spec_l01K.calls _ _ l0_0 t106 _ ?side1 ?side2 A6.out).mono ?_); (case side1 => exact zC (Kd.C_below HR0_0.out HB.out)); (case side2 => exact HC0_0.out); rintro e w11 ⟨rfl, hb⟩; refine ⟨_, rfl, ?_⟩; have n_ := y4 (Kd.R_below (zR HO_4.out) hb) (zb BK101.out hb) (zb BK102.out hb) (below_step (zB) hb); clear HO_4 BK101 BK102 HB; obtain ⟨HO_4, BK101, BK102, HB⟩ := n_; (try clear hb); (try clear hb2); (try clear hk); (try clear hi); obtain ⟨Ao12, co12, eo12⟩ := Kd.R_slice HO_4.out; subst eo12) | ((with_reducible refine gate_builtin (b := .append) (xs := #[.tmp 18, .tmp 20]) rfl ?_); at_builtin; refine Kd.R_append (Kd.int .i64) (w0 := w) w.heap.size rfl (.tmp 18) (.tmp 20) 24 2 (.int .i64 0) 8 rfl Try.underlying24 info2 rfl (by decide) (by omega) (.slice Ao12 x4_1.length co12) x4_1 x5_1 [.int .i64 x5_1] (fun _ => True) (fun _ => False) rfl rfl ?aP (fun _ hk => hk.elim) ?aF ?aO ?aB ?aS ?aL ?_; (case aP => exact rfl); (case aB => exact (zB)); (case aF => exact (fun _ _ => trivial)); (case aO => exact (zR HO_4.out)); (case aS => exact (below_size (zB))); (case aL => have := LMc8.out; omega); intro v108 w13 ho hb hg hat; rw [← Ny107.out] at ho; have n_ := y4 (blk_grown (g := gb101) (o := .cells #[.slice A0_0 l0_0.length c0_0] 26 (0, 0)) (zG BK101.out) hg (Kd.R_ne HO_4.out BK101.out (by decide))) (blk_grown (g := gb102) (o := .cells #[.slice none 0 0] 26 (0, 0)) (zG BK102.out) hg (Kd.R_ne HO_4.out BK102.out (by decide))) (hb) (ho); clear BK101 BK102 HB HO_4; obtain ⟨BK101, BK102, HB, HO109⟩ := n_; clear ho hb hg hat))
       go_loopg [6] k1 (fun kq v6 w' => ∃ (x4_2 : List Int) (x6_2 : Int), v6 = .int .i64 x6_2 ∧ Aside0 (spec_l01Sorted.l1 kq x4_2 x5_1 x6_2 l0_0 = some (r1, r2)) ∧ Aside0 (kq ≤ k1) ∧ Aside0 (Kd.R (Kd.int .i64) 2 w' w.heap.size (fun _ => True) v108 x4_2) ∧ Aside0 (w'.heap[gb101]? = some (.cells #[(.slice A0_0 l0_0.length c0_0)] 26 (0, 0))) ∧ Aside0 (w'.heap[gb102]? = some (.cells #[(.slice none 0 0)] 26 (0, 0))) ∧ Aside0 (Below w.heap.size w w'))
       case atStart => exact ⟨(y107), ((x4_1.length : Int)), zF, H', ⟨Nat.le_refl _⟩, ⟨zR HO109.out⟩, ⟨zG BK101.out⟩, ⟨zG BK102.out⟩, ⟨zB⟩⟩
       case round =>
         clear H'
         try clear c7
         try clear c7b0
         try clear c8
         try clear hcz10_0
         try clear hfz10_0
         obtain ⟨x4_2, x6_2, rfl, HA, HK2, HO_4, BK101, BK102, HB⟩ := hrel
         cases gk with
         | zero => exact absurd HA.out (by simp [spec_l01Sorted.l1])
         | succ k2 =>
           have H := HA.out
           clear HA
           simp only [spec_l01Sorted.l1] at H
           by_cases c14 : x6_2 > 0
           · rw [if_pos c14] at H
             have c14b0 : decide (0 < x6_2) = true := decide_eq_true c14
             clear c14
             obtain ⟨ji15, hji15⟩ : ∃ j_ : Int, (wrap64 (x6_2 - 1)) = j_ := ⟨_, rfl⟩
             replace H : (if 0 ≤ (ji15) then (if (ji15) < (x4_2.length : Int) then (if 0 ≤ (rd x4_2 (ji15)) then (if (rd x4_2 (ji15)) < (l0_0.length : Int) then (if 0 ≤ x5_1 then (if x5_1 < (l0_0.length : Int) then (if (rd l0_0 (rd x4_2 (ji15))) > (rd l0_0 x5_1) then (if 0 ≤ x6_2 then (if x6_2 < (x4_2.length : Int) then (spec_l01Sorted.l1 k2 (x4_2.set (x6_2 : Int).toNat (rd x4_2 (ji15))) x5_1 ji15 l0_0) else (none)) else (none)) else (if 0 ≤ x6_2 then (if x6_2 < (x4_2.length : Int) then (spec_l01Sorted.l0 k2 (x4_2.set (x6_2 : Int).toNat x5_1) (wrap64 (x5_1 + 1)) l0_0) else (none)) else (none))) else (none)) else (none)) else (none)) else (none)) else (none)) else (none)) = some (r1, r2) := by first | (rw [hji15] at H; exact H) | (simp only [hji15] at H ⊢; exact H)
             have hji15w : (IntKind.i64.wrap (x6_2 - 1)) = ji15 := (i64_w _).trans hji15
             by_cases c16 : 0 ≤ (ji15)
             · rw [if_pos c16] at H
               have c16b0 : decide (0 ≤ (ji15)) = true := decide_eq_true c16
               clear c16
               by_cases c17 : (ji15) < (x4_2.length : Int)
               · rw [if_pos c17] at H
                 have c17b0 : decide ((ji15) < (x4_2.length : Int)) = true := decide_eq_true c17
                 clear c17
                 by_cases c18 : 0 ≤ (rd x4_2 (ji15))
                 · rw [if_pos c18] at H
                   have c18b0 : decide (0 ≤ (rd x4_2 (ji15))) = true := decide_eq_true c18
                   clear c18
                   by_cases c19 : (rd x4_2 (ji15)) < (l0_0.length : Int)
                   · rw [if_pos c19] at H
                     have c19b0 : decide ((rd x4_2 (ji15)) < (l0_0.length : Int)) = true := decide_eq_true c19
                     clear c19
                     by_cases c20 : 0 ≤ x5_1
                     · rw [if_pos c20] at H
                       have c20b0 : decide (0 ≤ x5_1) = true := decide_eq_true c20
                       clear c20
                       by_cases c21 : x5_1 < (l0_0.length : Int)
                       · rw [if_pos c21] at H
                         have c21b0 : decide (x5_1 < (l0_0.length : Int)) = true := decide_eq_true c21
                         clear c21
                         by_cases c22 : (rd l0_0 (rd x4_2 (ji15))) > (rd l0_0 x5_1)
                         · rw [if_pos c22] at H
                           have c22b0 : decide ((rd l0_0 x5_1) < (rd l0_0 (rd x4_2 (ji15)))) = true := decide_eq_true c22
                           clear c22
                           by_cases c23 : 0 ≤ x6_2
                           · rw [if_pos c23] at H
                             have c23b0 : decide (0 ≤ x6_2) = true := decide_eq_true c23
                             clear c23
                             by_cases c24 : x6_2 < (x4_2.length : Int)
                             · rw [if_pos c24] at H
                               have c24b0 : decide (x6_2 < (x4_2.length : Int)) = true := decide_eq_true c24
                               clear c24
                               obtain ⟨y114, hy114⟩ : ∃ y_ : List Int, y_ = (x4_2.set (x6_2 : Int).toNat (rd x4_2 (ji15))) := ⟨_, rfl⟩
                               replace H : (spec_l01Sorted.l1 k2 y114 x5_1 ji15 l0_0) = some (r1, r2) := zH hy114
                               have Ny114 := Aside0.mk hy114
                               clear hy114
                               have H' := Aside0.mk H
                               clear H
                               try go_wp2
                               have n_ := y4 (Kd.R_drew HO_4.out) (blk_drew BK101.out) (blk_drew BK102.out) (below_drew1 HB.out)
                               clear HO_4 BK101 BK102 HB
                               obtain ⟨HO_4, BK101, BK102, HB⟩ := n_
                               obtain ⟨Ao27, co27, eo27⟩ := Kd.R_slice HO_4.out
                               (first | subst eo27 | (injection eo27 with f1_ f2_ f3_; have f4_ := f1_.symm; have f5_ := f3_.symm; clear f1_ f2_ f3_; subst f4_; subst f5_))
                               have p110 : 0 ≤ ((ji15) : Int) := zD
                               have q110 : (ji15) < (x4_2.length : Int) := zD
                               obtain ⟨ad110, e110, hx110_0⟩ := Kd.at_int (Kd.R_reads' HO_4.out).2.2 (ji15) p110 q110
                               cases e110
                               replace p110 := eq_true p110
                               replace q110 := eq_true q110
                               have p111 : 0 ≤ ((rd x4_2 (ji15)) : Int) := zD
                               have q111 : (rd x4_2 (ji15)) < (l0_0.length : Int) := zD
                               obtain ⟨ad111, e111, hx111_0⟩ := Kd.at_int HR0_0.out (rd x4_2 (ji15)) p111 q111
                               have hw111_0 := hx111_0
                               cases e111
                               replace hx111_0 := (HB.out.cell (World.block_lt_of_cell? w _ hx111_0)).trans hx111_0
                               replace p111 := eq_true p111
                               replace q111 := eq_true q111
                               have p112 : 0 ≤ (x5_1 : Int) := zD
                               have q112 : x5_1 < (l0_0.length : Int) := zD
                               obtain ⟨ad112, e112, hx112_0⟩ := Kd.at_int HR0_0.out x5_1 p112 q112
                               have hw112_0 := hx112_0
                               obtain rfl : ad111 = ad112 := (by injection e112)
                               replace hx112_0 := (HB.out.cell (World.block_lt_of_cell? w _ hx112_0)).trans hx112_0
                               replace p112 := eq_true p112
                               replace q112 := eq_true q112
                               refine start_ (n := 19) (S := fun w' => w'.cell? ⟨gb101, 0, none⟩ = some (.slice (some ad111) l0_0.length c0_0) ∧ w'.cell? (ad110.add ((ji15)).toNat) = some (.int .i64 (rd x4_2 (ji15))) ∧ w'.cell? (ad111.add ((rd x4_2 (ji15))).toNat) = some (.int .i64 (rd l0_0 (rd x4_2 (ji15)))) ∧ w'.cell? (ad111.add (x5_1).toNat) = some (.int .i64 (rd l0_0 x5_1))) (ds := []) #[false,false,false,false,false,false,false,false,false,false,false,false,false,false,false,false,false,false,false] zk rfl rfl ⟨(blk_cell BK101.out 0).trans rfl, hx110_0, ((HB.out.cell (World.block_lt_of_cell? w _ hw111_0)).trans hw111_0), ((HB.out.cell (World.block_lt_of_cell? w _ hw112_0)).trans hw112_0)⟩ (fun hHeld => ?_); refine with_tabW spec_l01Sorted.tab7 spec_l01Sorted.bits7 (fun HT_ HW_ => ?_)
                               generalize wr.drew = w26 at HO_4 BK101 BK102 HB hx110_0 hx111_0 hx112_0 hHeld ⊢
                               refine pure_ (i := 0) (N := some 22) (v := ?_) (a' := ?_) #[true,false,false,false,false,false,false,false,false,false,false,false,false,false,false,false,false,false,false] rfl rfl (any_of HT_.out zk) (fun _ _ _ h => h) (Or.inl ⟨by rfl, ?_⟩) ?_ ?_
                               rotate_left; exact zp; rotate_left; exact zq
                               refine pure_ (i := 1) (N := some 23) (v := ?_) (a' := ?_) #[true,true,false,false,false,false,false,false,false,false,false,false,false,false,false,false,false,false,false] rfl rfl (any_of HT_.out zk) (fun _ _ _ h => h) (Or.inl ⟨by rfl, ?_⟩) ?_ ?_
                               rotate_left; exact zp; rotate_left; exact zq
                               refine pure_ (i := 2) (N := some 24) (v := ?_) (a' := ?_) #[true,true,true,false,false,false,false,false,false,false,false,false,false,false,false,false,false,false,false] rfl rfl (any_of HT_.out zk) (fun _ _ _ h => h) (Or.inl ⟨by rfl, ?_⟩) ?_ ?_
                               rotate_left; exact zp; rotate_left; exact zq
                               refine pure_ (i := 3) (N := some 25) (v := ?_) (a' := ?_) #[true,true,true,true,false,false,false,false,false,false,false,false,false,false,false,false,false,false,false] rfl rfl (any_of HT_.out zk) (fun _ _ _ h => h) (Or.inl ⟨by rfl, ?_⟩) ?_ ?_
                               rotate_left; exact zp; rotate_left; exact zq
                               refine pure_ (i := 5) (N := some 27) (v := ?_) (a' := ?_) #[true,true,true,true,false,true,false,false,false,false,false,false,false,false,false,false,false,false,false] rfl rfl (any_of HT_.out zk) (fun _ _ _ h => h) (Or.inl ⟨by rfl, ?_⟩) ?_ ?_
                               rotate_left; exact zp; rotate_left; exact zq
                               refine pure_ (i := 6) (N := some 28) (v := ?_) (a' := ?_) #[true,true,true,true,false,true,true,false,false,false,false,false,false,false,false,false,false,false,false] rfl rfl (any_of HT_.out zk) (fun _ _ _ h => h) (Or.inl ⟨by rfl, ?_⟩) ?_ ?_
                               rotate_left; exact zp; rotate_left; exact zq
                               refine pure_ (i := 7) (N := some 29) (v := ?_) (a' := ?_) #[true,true,true,true,false,true,true,true,false,false,false,false,false,false,false,false,false,false,false] rfl rfl (any_of HT_.out zk) (fun _ _ _ h => h) (Or.inl ⟨by rfl, ?_⟩) ?_ ?_
                               rotate_left; exact zp; rotate_left; exact zq
                               refine pure_ (i := 8) (N := some 30) (v := ?_) (a' := ?_) #[true,true,true,true,false,true,true,true,true,false,false,false,false,false,false,false,false,false,false] rfl rfl (any_of HT_.out zk) (fun _ _ _ h => h) (Or.inl ⟨by rfl, ?_⟩) ?_ ?_
                               rotate_left; exact zp; rotate_left; exact zq
                               refine pure_ (i := 12) (N := some 34) (v := ?_) (a' := ?_) #[true,true,true,true,false,true,true,true,true,false,false,false,true,false,false,false,false,false,false] rfl rfl (any_of HT_.out zk) (fun _ _ _ h => h) (Or.inl ⟨by rfl, ?_⟩) ?_ ?_
                               rotate_left; exact zp; rotate_left; exact zq
                               refine pure_ (i := 14) (N := some 36) (v := ?_) (a' := ?_) #[true,true,true,true,false,true,true,true,true,false,false,false,true,false,true,false,false,false,false] rfl rfl (any_of HT_.out zk) (fun _ _ _ h => h) (Or.inl ⟨by rfl, ?_⟩) ?_ ?_
                               rotate_left; exact zp; rotate_left; exact zq
                               refine take_ (i := 4) (N := some 26) (v := ?_) (a' := ?_) #[true,true,true,true,true,true,true,true,true,false,false,false,true,false,true,false,false,false,false] rfl rfl (take_ofW HT_.out HW_.out zk) (fun _ _ _ h => h) (Or.inl ⟨by rfl, ?_⟩) hHeld ?_ ?_
                               rotate_left
                               · rintro w' ⟨s0, s1, s2, s3⟩
                                 go_simp
                                 with_reducible rfl
                               rotate_left
                               · simp only [Act.put, List.setIfInBounds_toArray, List.set_cons_zero, List.set_cons_succ, i64_w, i32_w]
                                 rfl
                               refine take_ (i := 9) (N := some 31) (v := ?_) (a' := ?_) #[true,true,true,true,true,true,true,true,true,true,false,false,true,false,true,false,false,false,false] rfl rfl (take_ofW HT_.out HW_.out zk) (fun _ _ _ h => h) (Or.inl ⟨by rfl, ?_⟩) hHeld ?_ ?_
                               rotate_left
                               · rintro w' ⟨s0, s1, s2, s3⟩
                                 go_simp
                                 with_reducible rfl
                               rotate_left
                               · simp only [Act.put, List.setIfInBounds_toArray, List.set_cons_zero, List.set_cons_succ, i64_w, i32_w]
                                 rfl
                               refine pure_ (i := 10) (N := some 32) (v := ?_) (a' := ?_) #[true,true,true,true,true,true,true,true,true,true,true,false,true,false,true,false,false,false,false] rfl rfl (any_of HT_.out zk) (fun _ _ _ h => h) (Or.inl ⟨by rfl, ?_⟩) ?_ ?_
                               rotate_left; exact zp; rotate_left; exact zq
                               refine take_ (i := 11) (N := some 33) (v := ?_) (a' := ?_) #[true,true,true,true,true,true,true,true,true,true,true,true,true,false,true,false,false,false,false] rfl rfl (take_ofW HT_.out HW_.out zk) (fun _ _ _ h => h) (Or.inl ⟨by rfl, ?_⟩) hHeld ?_ ?_
                               rotate_left
                               · rintro w' ⟨s0, s1, s2, s3⟩
                                 go_simp
                                 with_reducible rfl
                               rotate_left
                               · simp only [Act.put, List.setIfInBounds_toArray, List.set_cons_zero, List.set_cons_succ, i64_w, i32_w]
                                 rfl
                               refine take_ (i := 13) (N := some 35) (v := ?_) (a' := ?_) #[true,true,true,true,true,true,true,true,true,true,true,true,true,true,true,false,false,false,false] rfl rfl (take_ofW HT_.out HW_.out zk) (fun _ _ _ h => h) (Or.inl ⟨by rfl, ?_⟩) hHeld ?_ ?_
                               rotate_left
                               · rintro w' ⟨s0, s1, s2, s3⟩
                                 go_simp
                                 with_reducible rfl
                               rotate_left
                               · simp only [Act.put, List.setIfInBounds_toArray, List.set_cons_zero, List.set_cons_succ, i64_w, i32_w]
                                 rfl
                               refine pure_ (i := 15) (N := some 37) (v := ?_) (a' := ?_) #[true,true,true,true,true,true,true,true,true,true,true,true,true,true,true,true,false,false,false] rfl rfl (any_of HT_.out zk) (fun _ _ _ h => h) (Or.inl ⟨by rfl, ?_⟩) ?_ ?_
                               rotate_left; exact zp; rotate_left; exact zq
                               refine take_ (i := 16) (N := some 38) (v := ?_) (a' := ?_) #[true,true,true,true,true,true,true,true,true,true,true,true,true,true,true,true,true,false,false] rfl rfl (take_ofW HT_.out HW_.out zk) (fun _ _ _ h => h) (Or.inl ⟨by rfl, ?_⟩) hHeld ?_ ?_
                               rotate_left
                               · rintro w' ⟨s0, s1, s2, s3⟩
                                 go_simp
                                 with_reducible rfl
                               rotate_left
                               · simp only [Act.put, List.setIfInBounds_toArray, List.set_cons_zero, List.set_cons_succ, i64_w, i32_w]
                                 rfl
                               refine pure_ (i := 17) (N := some 39) (v := ?_) (a' := ?_) #[true,true,true,true,true,true,true,true,true,true,true,true,true,true,true,true,true,true,false] rfl rfl (any_of HT_.out zk) (fun _ _ _ h => h) (Or.inl ⟨by rfl, ?_⟩) ?_ ?_
                               rotate_left; exact zp; rotate_left; exact zq
                               refine pure_ (i := 18) (N := some 40) (v := ?_) (a' := ?_) #[true,true,true,true,true,true,true,true,true,true,true,true,true,true,true,true,true,true,true] rfl rfl (any_of HT_.out zk) (fun _ _ _ h => h) (Or.inl ⟨by rfl, ?_⟩) ?_ ?_
                               rotate_left; exact zp; rotate_left; exact zq
                               refine done_ (done_of HT_.out zk) ?_
                               have p113 : 0 ≤ ((ji15) : Int) := zD
                               have q113 : (ji15) < (x4_2.length : Int) := zD
                               obtain ⟨ad113, e113, hx113_0⟩ := Kd.at_int (Kd.R_reads' HO_4.out).2.2 (ji15) p113 q113
                               obtain rfl : ad110 = ad113 := (by injection e113)
                               replace p113 := eq_true p113
                               replace q113 := eq_true q113
                               have p25 : 0 ≤ (x6_2 : Int) := zD
                               have q25 : (x6_2 : Int) < ((x4_2.length : Int) : Int) := zD
                               obtain ⟨go25, co25, eo25, gb25, gl25, cl25, HG25⟩ := Kd.R_form HO_4.out (by omega)
                               (first | cases eo25 | (injection eo25 with ea_ en_ ec_; (first | subst ea_ | (injection ea_ with ea_; subst ea_)); subst ec_; clear en_))
                               have GB25 := Aside0.mk gb25
                               have GG25 := Aside0.mk HG25
                               clear gb25 gl25 HG25
                               (first | simp only [add_plain] at hx110_0 | skip)
                               (first | simp only [add_plain] at hx113_0 | skip)
                               obtain ⟨hx25_0, hf25_0⟩ := Kd.R_celln 0 HO_4.out (x6_2 : Int) p25 q25
                               replace p25 := eq_true p25
                               replace q25 := eq_true q25
                               obtain ⟨hy28_, hz28_⟩ := Kd.R_celln 0 HO_4.out (x6_2 : Int) (zD) (zD)
                               have HP28 := Kd.R_putg HO_4.out (x6_2 : Int) (rd x4_2 (ji15))
                               try go_wp2_with (first | ((with_reducible refine gate_store (t := 2) (p := 48) rfl ?_); refine store_event (t := 2) (p := 48) (v := ?vo_w29) (w1 := (w26.setCell ⟨go25, (x6_2 : Int).toNat, none⟩ (.int .i64 (rd x4_2 (ji15))))) ?hg ?ho ?hn ?hr ?_; (case ho => rfl); (case hg => rfl); (case hn => rfl); (case hr => first | (go_simp; done) | (go_simp; rfl)); intro w29 hw; have hg : w26.grownBy w29 (some go25) := (by rw [hw]; exact HP28.2); have hp_ : Kd.R (Kd.int .i64) 2 w29 w.heap.size (fun _ => True) (.slice (some ⟨go25, 0, none⟩) x4_2.length co27) y114 := (by rw [hw, Ny114.out]; exact HP28.1); clear HP28; have n_ := y4 (hp_) (blk_grown (g := gb101) (o := .cells #[.slice (some ad111) l0_0.length c0_0] 26 (0, 0)) (zG BK101.out) hg (Kd.R_ne HO_4.out BK101.out (by decide))) (blk_grown (g := gb102) (o := .cells #[.slice none 0 0] 26 (0, 0)) (zG BK102.out) hg (Kd.R_ne HO_4.out BK102.out (by decide))) ((by rw [hw]; exact below_set (HB.out) GB25.out : Below w.heap.size w w29)); clear HO_4 BK101 BK102 HB; obtain ⟨HO_4, BK101, BK102, HB⟩ := n_; clear hg hw hp_))
                               go_roundg k2
                               case measure => have := HK1.out; have := HK2.out; omega
                               case rel => exact ⟨(y114), (ji15), (by first | rfl | (simp; done) | (simp only [← hji15] <;> (first | rfl | simp)) | (simp [*]; done)), H', ⟨by have := HK1.out; have := HK2.out; omega⟩, ⟨zR HO_4.out⟩, ⟨zG BK101.out⟩, ⟨zG BK102.out⟩, ⟨zB⟩⟩
                             · rw [if_neg c24] at H
                               exact absurd H (by simp)
                           · rw [if_neg c23] at H
                             exact absurd H (by simp)
                         · rw [if_neg c22] at H
                           have c22b0 : decide ((rd l0_0 x5_1) < (rd l0_0 (rd x4_2 (ji15)))) = false := decide_eq_false c22
                           clear c22
                           by_cases c30 : 0 ≤ x6_2
                           · rw [if_pos c30] at H
                             have c30b0 : decide (0 ≤ x6_2) = true := decide_eq_true c30
                             clear c30
                             by_cases c31 : x6_2 < (x4_2.length : Int)
                             · rw [if_pos c31] at H
                               have c31b0 : decide (x6_2 < (x4_2.length : Int)) = true := decide_eq_true c31
                               clear c31
                               obtain ⟨y115, hy115⟩ : ∃ y_ : List Int, y_ = (x4_2.set (x6_2 : Int).toNat x5_1) := ⟨_, rfl⟩
                               replace H : (spec_l01Sorted.l0 k2 y115 (wrap64 (x5_1 + 1)) l0_0) = some (r1, r2) := zH hy115
                               have Ny115 := Aside0.mk hy115
                               clear hy115
                               have H' := Aside0.mk H
                               clear H
                               try go_wp2
                               have n_ := y4 (Kd.R_drew HO_4.out) (blk_drew BK101.out) (blk_drew BK102.out) (below_drew1 HB.out)
                               clear HO_4 BK101 BK102 HB
                               obtain ⟨HO_4, BK101, BK102, HB⟩ := n_
                               obtain ⟨Ao34, co34, eo34⟩ := Kd.R_slice HO_4.out
                               (first | subst eo34 | (injection eo34 with f1_ f2_ f3_; have f4_ := f1_.symm; have f5_ := f3_.symm; clear f1_ f2_ f3_; subst f4_; subst f5_))
                               have p110 : 0 ≤ ((ji15) : Int) := zD
                               have q110 : (ji15) < (x4_2.length : Int) := zD
                               obtain ⟨ad110, e110, hx110_0⟩ := Kd.at_int (Kd.R_reads' HO_4.out).2.2 (ji15) p110 q110
                               cases e110
                               replace p110 := eq_true p110
                               replace q110 := eq_true q110
                               have p111 : 0 ≤ ((rd x4_2 (ji15)) : Int) := zD
                               have q111 : (rd x4_2 (ji15)) < (l0_0.length : Int) := zD
                               obtain ⟨ad111, e111, hx111_0⟩ := Kd.at_int HR0_0.out (rd x4_2 (ji15)) p111 q111
                               have hw111_0 := hx111_0
                               cases e111
                               replace hx111_0 := (HB.out.cell (World.block_lt_of_cell? w _ hx111_0)).trans hx111_0
                               replace p111 := eq_true p111
                               replace q111 := eq_true q111
                               have p112 : 0 ≤ (x5_1 : Int) := zD
                               have q112 : x5_1 < (l0_0.length : Int) := zD
                               obtain ⟨ad112, e112, hx112_0⟩ := Kd.at_int HR0_0.out x5_1 p112 q112
                               have hw112_0 := hx112_0
                               obtain rfl : ad111 = ad112 := (by injection e112)
                               replace hx112_0 := (HB.out.cell (World.block_lt_of_cell? w _ hx112_0)).trans hx112_0
                               replace p112 := eq_true p112
                               replace q112 := eq_true q112
                               refine start_ (n := 19) (S := fun w' => w'.cell? ⟨gb101, 0, none⟩ = some (.slice (some ad111) l0_0.length c0_0) ∧ w'.cell? (ad110.add ((ji15)).toNat) = some (.int .i64 (rd x4_2 (ji15))) ∧ w'.cell? (ad111.add ((rd x4_2 (ji15))).toNat) = some (.int .i64 (rd l0_0 (rd x4_2 (ji15)))) ∧ w'.cell? (ad111.add (x5_1).toNat) = some (.int .i64 (rd l0_0 x5_1))) (ds := []) #[false,false,false,false,false,false,false,false,false,false,false,false,false,false,false,false,false,false,false] zk rfl rfl ⟨(blk_cell BK101.out 0).trans rfl, hx110_0, ((HB.out.cell (World.block_lt_of_cell? w _ hw111_0)).trans hw111_0), ((HB.out.cell (World.block_lt_of_cell? w _ hw112_0)).trans hw112_0)⟩ (fun hHeld => ?_); refine with_tabW spec_l01Sorted.tab7 spec_l01Sorted.bits7 (fun HT_ HW_ => ?_)
                               generalize wr.drew = w33 at HO_4 BK101 BK102 HB hx110_0 hx111_0 hx112_0 hHeld ⊢
                               refine pure_ (i := 0) (N := some 22) (v := ?_) (a' := ?_) #[true,false,false,false,false,false,false,false,false,false,false,false,false,false,false,false,false,false,false] rfl rfl (any_of HT_.out zk) (fun _ _ _ h => h) (Or.inl ⟨by rfl, ?_⟩) ?_ ?_
                               rotate_left; exact zp; rotate_left; exact zq
                               refine pure_ (i := 1) (N := some 23) (v := ?_) (a' := ?_) #[true,true,false,false,false,false,false,false,false,false,false,false,false,false,false,false,false,false,false] rfl rfl (any_of HT_.out zk) (fun _ _ _ h => h) (Or.inl ⟨by rfl, ?_⟩) ?_ ?_
                               rotate_left; exact zp; rotate_left; exact zq
                               refine pure_ (i := 2) (N := some 24) (v := ?_) (a' := ?_) #[true,true,true,false,false,false,false,false,false,false,false,false,false,false,false,false,false,false,false] rfl rfl (any_of HT_.out zk) (fun _ _ _ h => h) (Or.inl ⟨by rfl, ?_⟩) ?_ ?_
                               rotate_left; exact zp; rotate_left; exact zq
                               refine pure_ (i := 3) (N := some 25) (v := ?_) (a' := ?_) #[true,true,true,true,false,false,false,false,false,false,false,false,false,false,false,false,false,false,false] rfl rfl (any_of HT_.out zk) (fun _ _ _ h => h) (Or.inl ⟨by rfl, ?_⟩) ?_ ?_
                               rotate_left; exact zp; rotate_left; exact zq
                               refine pure_ (i := 5) (N := some 27) (v := ?_) (a' := ?_) #[true,true,true,true,false,true,false,false,false,false,false,false,false,false,false,false,false,false,false] rfl rfl (any_of HT_.out zk) (fun _ _ _ h => h) (Or.inl ⟨by rfl, ?_⟩) ?_ ?_
                               rotate_left; exact zp; rotate_left; exact zq
                               refine pure_ (i := 6) (N := some 28) (v := ?_) (a' := ?_) #[true,true,true,true,false,true,true,false,false,false,false,false,false,false,false,false,false,false,false] rfl rfl (any_of HT_.out zk) (fun _ _ _ h => h) (Or.inl ⟨by rfl, ?_⟩) ?_ ?_
                               rotate_left; exact zp; rotate_left; exact zq
                               refine pure_ (i := 7) (N := some 29) (v := ?_) (a' := ?_) #[true,true,true,true,false,true,true,true,false,false,false,false,false,false,false,false,false,false,false] rfl rfl (any_of HT_.out zk) (fun _ _ _ h => h) (Or.inl ⟨by rfl, ?_⟩) ?_ ?_
                               rotate_left; exact zp; rotate_left; exact zq
                               refine pure_ (i := 8) (N := some 30) (v := ?_) (a' := ?_) #[true,true,true,true,false,true,true,true,true,false,false,false,false,false,false,false,false,false,false] rfl rfl (any_of HT_.out zk) (fun _ _ _ h => h) (Or.inl ⟨by rfl, ?_⟩) ?_ ?_
                               rotate_left; exact zp; rotate_left; exact zq
                               refine pure_ (i := 12) (N := some 34) (v := ?_) (a' := ?_) #[true,true,true,true,false,true,true,true,true,false,false,false,true,false,false,false,false,false,false] rfl rfl (any_of HT_.out zk) (fun _ _ _ h => h) (Or.inl ⟨by rfl, ?_⟩) ?_ ?_
                               rotate_left; exact zp; rotate_left; exact zq
                               refine pure_ (i := 14) (N := some 36) (v := ?_) (a' := ?_) #[true,true,true,true,false,true,true,true,true,false,false,false,true,false,true,false,false,false,false] rfl rfl (any_of HT_.out zk) (fun _ _ _ h => h) (Or.inl ⟨by rfl, ?_⟩) ?_ ?_
                               rotate_left; exact zp; rotate_left; exact zq
                               refine take_ (i := 4) (N := some 26) (v := ?_) (a' := ?_) #[true,true,true,true,true,true,true,true,true,false,false,false,true,false,true,false,false,false,false] rfl rfl (take_ofW HT_.out HW_.out zk) (fun _ _ _ h => h) (Or.inl ⟨by rfl, ?_⟩) hHeld ?_ ?_
                               rotate_left
                               · rintro w' ⟨s0, s1, s2, s3⟩
                                 go_simp
                                 with_reducible rfl
                               rotate_left
                               · simp only [Act.put, List.setIfInBounds_toArray, List.set_cons_zero, List.set_cons_succ, i64_w, i32_w]
                                 rfl
                               refine take_ (i := 9) (N := some 31) (v := ?_) (a' := ?_) #[true,true,true,true,true,true,true,true,true,true,false,false,true,false,true,false,false,false,false] rfl rfl (take_ofW HT_.out HW_.out zk) (fun _ _ _ h => h) (Or.inl ⟨by rfl, ?_⟩) hHeld ?_ ?_
                               rotate_left
                               · rintro w' ⟨s0, s1, s2, s3⟩
                                 go_simp
                                 with_reducible rfl
                               rotate_left
                               · simp only [Act.put, List.setIfInBounds_toArray, List.set_cons_zero, List.set_cons_succ, i64_w, i32_w]
                                 rfl
                               refine pure_ (i := 10) (N := some 32) (v := ?_) (a' := ?_) #[true,true,true,true,true,true,true,true,true,true,true,false,true,false,true,false,false,false,false] rfl rfl (any_of HT_.out zk) (fun _ _ _ h => h) (Or.inl ⟨by rfl, ?_⟩) ?_ ?_
                               rotate_left; exact zp; rotate_left; exact zq
                               refine take_ (i := 11) (N := some 33) (v := ?_) (a' := ?_) #[true,true,true,true,true,true,true,true,true,true,true,true,true,false,true,false,false,false,false] rfl rfl (take_ofW HT_.out HW_.out zk) (fun _ _ _ h => h) (Or.inl ⟨by rfl, ?_⟩) hHeld ?_ ?_
                               rotate_left
                               · rintro w' ⟨s0, s1, s2, s3⟩
                                 go_simp
                                 with_reducible rfl
                               rotate_left
                               · simp only [Act.put, List.setIfInBounds_toArray, List.set_cons_zero, List.set_cons_succ, i64_w, i32_w]
                                 rfl
                               refine take_ (i := 13) (N := some 35) (v := ?_) (a' := ?_) #[true,true,true,true,true,true,true,true,true,true,true,true,true,true,true,false,false,false,false] rfl rfl (take_ofW HT_.out HW_.out zk) (fun _ _ _ h => h) (Or.inl ⟨by rfl, ?_⟩) hHeld ?_ ?_
                               rotate_left
                               · rintro w' ⟨s0, s1, s2, s3⟩
                                 go_simp
                                 with_reducible rfl
                               rotate_left
                               · simp only [Act.put, List.setIfInBounds_toArray, List.set_cons_zero, List.set_cons_succ, i64_w, i32_w]
                                 rfl
                               refine pure_ (i := 15) (N := some 37) (v := ?_) (a' := ?_) #[true,true,true,true,true,true,true,true,true,true,true,true,true,true,true,true,false,false,false] rfl rfl (any_of HT_.out zk) (fun _ _ _ h => h) (Or.inl ⟨by rfl, ?_⟩) ?_ ?_
                               rotate_left; exact zp; rotate_left; exact zq
                               refine take_ (i := 16) (N := some 38) (v := ?_) (a' := ?_) #[true,true,true,true,true,true,true,true,true,true,true,true,true,true,true,true,true,false,false] rfl rfl (take_ofW HT_.out HW_.out zk) (fun _ _ _ h => h) (Or.inl ⟨by rfl, ?_⟩) hHeld ?_ ?_
                               rotate_left
                               · rintro w' ⟨s0, s1, s2, s3⟩
                                 go_simp
                                 with_reducible rfl
                               rotate_left
                               · simp only [Act.put, List.setIfInBounds_toArray, List.set_cons_zero, List.set_cons_succ, i64_w, i32_w]
                                 rfl
                               refine pure_ (i := 17) (N := some 39) (v := ?_) (a' := ?_) #[true,true,true,true,true,true,true,true,true,true,true,true,true,true,true,true,true,true,false] rfl rfl (any_of HT_.out zk) (fun _ _ _ h => h) (Or.inl ⟨by rfl, ?_⟩) ?_ ?_
                               rotate_left; exact zp; rotate_left; exact zq
                               refine pure_ (i := 18) (N := some 40) (v := ?_) (a' := ?_) #[true,true,true,true,true,true,true,true,true,true,true,true,true,true,true,true,true,true,true] rfl rfl (any_of HT_.out zk) (fun _ _ _ h => h) (Or.inl ⟨by rfl, ?_⟩) ?_ ?_
                               rotate_left; exact zp; rotate_left; exact zq
                               refine done_ (done_of HT_.out zk) ?_
                               have p32 : 0 ≤ (x6_2 : Int) := zD
                               have q32 : (x6_2 : Int) < ((x4_2.length : Int) : Int) := zD
                               obtain ⟨go32, co32, eo32, gb32, gl32, cl32, HG32⟩ := Kd.R_form HO_4.out (by omega)
                               (first | cases eo32 | (injection eo32 with ea_ en_ ec_; (first | subst ea_ | (injection ea_ with ea_; subst ea_)); subst ec_; clear en_))
                               have GB32 := Aside0.mk gb32
                               have GG32 := Aside0.mk HG32
                               clear gb32 gl32 HG32
                               (first | simp only [add_plain] at hx110_0 | skip)
                               obtain ⟨hx32_0, hf32_0⟩ := Kd.R_celln 0 HO_4.out (x6_2 : Int) p32 q32
                               replace p32 := eq_true p32
                               replace q32 := eq_true q32
                               obtain ⟨hy35_, hz35_⟩ := Kd.R_celln 0 HO_4.out (x6_2 : Int) (zD) (zD)
                               have HP35 := Kd.R_putg HO_4.out (x6_2 : Int) x5_1
                               try go_wp2_with (first | ((with_reducible refine gate_store (t := 2) (p := 54) rfl ?_); refine store_event (t := 2) (p := 54) (v := ?vo_w36) (w1 := (w33.setCell ⟨go32, (x6_2 : Int).toNat, none⟩ (.int .i64 x5_1))) ?hg ?ho ?hn ?hr ?_; (case ho => rfl); (case hg => rfl); (case hn => rfl); (case hr => first | (go_simp; done) | (go_simp; rfl)); intro w36 hw; have hg : w33.grownBy w36 (some go32) := (by rw [hw]; exact HP35.2); have hp_ : Kd.R (Kd.int .i64) 2 w36 w.heap.size (fun _ => True) (.slice (some ⟨go32, 0, none⟩) x4_2.length co34) y115 := (by rw [hw, Ny115.out]; exact HP35.1); clear HP35; have n_ := y4 (hp_) (blk_grown (g := gb101) (o := .cells #[.slice (some ad111) l0_0.length c0_0] 26 (0, 0)) (zG BK101.out) hg (Kd.R_ne HO_4.out BK101.out (by decide))) (blk_grown (g := gb102) (o := .cells #[.slice none 0 0] 26 (0, 0)) (zG BK102.out) hg (Kd.R_ne HO_4.out BK102.out (by decide))) ((by rw [hw]; exact below_set (HB.out) GB32.out : Below w.heap.size w w36)); clear HO_4 BK101 BK102 HB; obtain ⟨HO_4, BK101, BK102, HB⟩ := n_; clear hg hw hp_))
                               go_roundg k2
                               case measure => have := HK1.out; have := HK2.out; omega
                               case rel => exact ⟨(y115), (wrap64 (x5_1 + 1)), zF, H', ⟨by have := HK1.out; have := HK2.out; omega⟩, ⟨zR HO_4.out⟩, ⟨zG BK101.out⟩, ⟨zG BK102.out⟩, ⟨zB⟩⟩
                             · rw [if_neg c31] at H
                               exact absurd H (by simp)
                           · rw [if_neg c30] at H
                             exact absurd H (by simp)
                       · rw [if_neg c21] at H
                         exact absurd H (by simp)
                     · rw [if_neg c20] at H
                       exact absurd H (by simp)
                   · rw [if_neg c19] at H
                     exact absurd H (by simp)
                 · rw [if_neg c18] at H
                   exact absurd H (by simp)
               · rw [if_neg c17] at H
                 exact absurd H (by simp)
             · rw [if_neg c16] at H
               exact absurd H (by simp)
           · rw [if_neg c14] at H
             have c14b0 : decide (0 < x6_2) = false := decide_eq_false c14
             clear c14
             by_cases c37 : 0 ≤ x6_2
             · rw [if_pos c37] at H
               have c37b0 : decide (0 ≤ x6_2) = true := decide_eq_true c37
               clear c37
               by_cases c38 : x6_2 < (x4_2.length : Int)
               · rw [if_pos c38] at H
                 have c38b0 : decide (x6_2 < (x4_2.length : Int)) = true := decide_eq_true c38
                 clear c38
                 obtain ⟨y116, hy116⟩ : ∃ y_ : List Int, y_ = (x4_2.set (x6_2 : Int).toNat x5_1) := ⟨_, rfl⟩
                 replace H : (spec_l01Sorted.l0 k2 y116 (wrap64 (x5_1 + 1)) l0_0) = some (r1, r2) := zH hy116
                 have Ny116 := Aside0.mk hy116
                 clear hy116
                 have H' := Aside0.mk H
                 clear H
                 try go_wp2
                 have n_ := y4 (Kd.R_drew HO_4.out) (blk_drew BK101.out) (blk_drew BK102.out) (below_drew1 HB.out)
                 clear HO_4 BK101 BK102 HB
                 obtain ⟨HO_4, BK101, BK102, HB⟩ := n_
                 refine start_ (n := 19) (S := fun w' => True) (ds := []) #[false,false,false,false,false,false,false,false,false,false,false,false,false,false,false,false,false,false,false] zk rfl rfl trivial (fun hHeld => ?_); refine with_tabW spec_l01Sorted.tab7 spec_l01Sorted.bits7 (fun HT_ HW_ => ?_)
                 generalize wr.drew = w40 at HO_4 BK101 BK102 HB hHeld ⊢
                 refine pure_ (i := 0) (N := some 22) (v := ?_) (a' := ?_) #[true,false,false,false,false,false,false,false,false,false,false,false,false,false,false,false,false,false,false] rfl rfl (any_of HT_.out zk) (fun _ _ _ h => h) (Or.inl ⟨by rfl, ?_⟩) ?_ ?_
                 rotate_left; exact zp; rotate_left; exact zq
                 refine pure_ (i := 1) (N := some 23) (v := ?_) (a' := ?_) #[true,true,false,false,false,false,false,false,false,false,false,false,false,false,false,false,false,false,false] rfl rfl (any_of HT_.out zk) (fun _ _ _ h => h) (Or.inl ⟨by rfl, ?_⟩) ?_ ?_
                 rotate_left; exact zp; rotate_left; exact zq
                 refine pure_ (i := 2) (N := some 24) (v := ?_) (a' := ?_) #[true,true,true,false,false,false,false,false,false,false,false,false,false,false,false,false,false,false,false] rfl rfl (any_of HT_.out zk) (fun _ _ _ h => h) (Or.inl ⟨by rfl, ?_⟩) ?_ ?_
                 rotate_left; exact zp; rotate_left; exact zq
                 refine pure_ (i := 3) (N := some 25) (v := undef) (a' := ?_) #[true,true,true,true,false,false,false,false,false,false,false,false,false,false,false,false,false,false,false] rfl rfl (any_of HT_.out zk) (fun _ _ _ h => h) (Or.inr ⟨by rfl, rfl⟩) ?_ ?_
                 rotate_left
                 · simp only [Act.put, List.setIfInBounds_toArray, List.set_cons_zero, List.set_cons_succ, i64_w, i32_w]
                   rfl
                 refine pure_ (i := 4) (N := some 26) (v := undef) (a' := ?_) #[true,true,true,true,true,false,false,false,false,false,false,false,false,false,false,false,false,false,false] rfl rfl (any_of HT_.out zk) (fun _ _ _ h => h) (Or.inr ⟨by rfl, rfl⟩) ?_ ?_
                 rotate_left
                 · simp only [Act.put, List.setIfInBounds_toArray, List.set_cons_zero, List.set_cons_succ, i64_w, i32_w]
                   rfl
                 refine pure_ (i := 5) (N := some 27) (v := undef) (a' := ?_) #[true,true,true,true,true,true,false,false,false,false,false,false,false,false,false,false,false,false,false] rfl rfl (any_of HT_.out zk) (fun _ _ _ h => h) (Or.inr ⟨by rfl, rfl⟩) ?_ ?_
                 rotate_left
                 · simp only [Act.put, List.setIfInBounds_toArray, List.set_cons_zero, List.set_cons_succ, i64_w, i32_w]
                   rfl
                 refine pure_ (i := 6) (N := some 28) (v := undef) (a' := ?_) #[true,true,true,true,true,true,true,false,false,false,false,false,false,false,false,false,false,false,false] rfl rfl (any_of HT_.out zk) (fun _ _ _ h => h) (Or.inr ⟨by rfl, rfl⟩) ?_ ?_
                 rotate_left
                 · simp only [Act.put, List.setIfInBounds_toArray, List.set_cons_zero, List.set_cons_succ, i64_w, i32_w]
                   rfl
                 refine pure_ (i := 7) (N := some 29) (v := undef) (a' := ?_) #[true,true,true,true,true,true,true,true,false,false,false,false,false,false,false,false,false,false,false] rfl rfl (any_of HT_.out zk) (fun _ _ _ h => h) (Or.inr ⟨by rfl, rfl⟩) ?_ ?_
                 rotate_left
                 · simp only [Act.put, List.setIfInBounds_toArray, List.set_cons_zero, List.set_cons_succ, i64_w, i32_w]
                   rfl
                 refine pure_ (i := 8) (N := some 30) (v := undef) (a' := ?_) #[true,true,true,true,true,true,true,true,true,false,false,false,false,false,false,false,false,false,false] rfl rfl (any_of HT_.out zk) (fun _ _ _ h => h) (Or.inr ⟨by rfl, rfl⟩) ?_ ?_
                 rotate_left
                 · simp only [Act.put, List.setIfInBounds_toArray, List.set_cons_zero, List.set_cons_succ, i64_w, i32_w]
                   rfl
                 refine pure_ (i := 9) (N := some 31) (v := undef) (a' := ?_) #[true,true,true,true,true,true,true,true,true,true,false,false,false,false,false,false,false,false,false] rfl rfl (any_of HT_.out zk) (fun _ _ _ h => h) (Or.inr ⟨by rfl, rfl⟩) ?_ ?_
                 rotate_left
                 · simp only [Act.put, List.setIfInBounds_toArray, List.set_cons_zero, List.set_cons_succ, i64_w, i32_w]
                   rfl
                 refine pure_ (i := 10) (N := some 32) (v := undef) (a' := ?_) #[true,true,true,true,true,true,true,true,true,true,true,false,false,false,false,false,false,false,false] rfl rfl (any_of HT_.out zk) (fun _ _ _ h => h) (Or.inr ⟨by rfl, rfl⟩) ?_ ?_
                 rotate_left
                 · simp only [Act.put, List.setIfInBounds_toArray, List.set_cons_zero, List.set_cons_succ, i64_w, i32_w]
                   rfl
                 refine pure_ (i := 11) (N := some 33) (v := undef) (a' := ?_) #[true,true,true,true,true,true,true,true,true,true,true,true,false,false,false,false,false,false,false] rfl rfl (any_of HT_.out zk) (fun _ _ _ h => h) (Or.inr ⟨by rfl, rfl⟩) ?_ ?_
                 rotate_left
                 · simp only [Act.put, List.setIfInBounds_toArray, List.set_cons_zero, List.set_cons_succ, i64_w, i32_w]
                   rfl
                 refine pure_ (i := 12) (N := some 34) (v := undef) (a' := ?_) #[true,true,true,true,true,true,true,true,true,true,true,true,true,false,false,false,false,false,false] rfl rfl (any_of HT_.out zk) (fun _ _ _ h => h) (Or.inr ⟨by rfl, rfl⟩) ?_ ?_
                 rotate_left
                 · simp only [Act.put, List.setIfInBounds_toArray, List.set_cons_zero, List.set_cons_succ, i64_w, i32_w]
                   rfl
                 refine pure_ (i := 13) (N := some 35) (v := undef) (a' := ?_) #[true,true,true,true,true,true,true,true,true,true,true,true,true,true,false,false,false,false,false] rfl rfl (any_of HT_.out zk) (fun _ _ _ h => h) (Or.inr ⟨by rfl, rfl⟩) ?_ ?_
                 rotate_left
                 · simp only [Act.put, List.setIfInBounds_toArray, List.set_cons_zero, List.set_cons_succ, i64_w, i32_w]
                   rfl
                 refine pure_ (i := 14) (N := some 36) (v := undef) (a' := ?_) #[true,true,true,true,true,true,true,true,true,true,true,true,true,true,true,false,false,false,false] rfl rfl (any_of HT_.out zk) (fun _ _ _ h => h) (Or.inr ⟨by rfl, rfl⟩) ?_ ?_
                 rotate_left
                 · simp only [Act.put, List.setIfInBounds_toArray, List.set_cons_zero, List.set_cons_succ, i64_w, i32_w]
                   rfl
                 refine pure_ (i := 15) (N := some 37) (v := undef) (a' := ?_) #[true,true,true,true,true,true,true,true,true,true,true,true,true,true,true,true,false,false,false] rfl rfl (any_of HT_.out zk) (fun _ _ _ h => h) (Or.inr ⟨by rfl, rfl⟩) ?_ ?_
                 rotate_left
                 · simp only [Act.put, List.setIfInBounds_toArray, List.set_cons_zero, List.set_cons_succ, i64_w, i32_w]
                   rfl
                 refine pure_ (i := 16) (N := some 38) (v := undef) (a' := ?_) #[true,true,true,true,true,true,true,true,true,true,true,true,true,true,true,true,true,false,false] rfl rfl (any_of HT_.out zk) (fun _ _ _ h => h) (Or.inr ⟨by rfl, rfl⟩) ?_ ?_
                 rotate_left
                 · simp only [Act.put, List.setIfInBounds_toArray, List.set_cons_zero, List.set_cons_succ, i64_w, i32_w]
                   rfl
                 refine pure_ (i := 17) (N := some 39) (v := undef) (a' := ?_) #[true,true,true,true,true,true,true,true,true,true,true,true,true,true,true,true,true,true,false] rfl rfl (any_of HT_.out zk) (fun _ _ _ h => h) (Or.inr ⟨by rfl, rfl⟩) ?_ ?_
                 rotate_left
                 · simp only [Act.put, List.setIfInBounds_toArray, List.set_cons_zero, List.set_cons_succ, i64_w, i32_w]
                   rfl
                 refine pure_ (i := 18) (N := some 40) (v := ?_) (a' := ?_) #[true,true,true,true,true,true,true,true,true,true,true,true,true,true,true,true,true,true,true] rfl rfl (any_of HT_.out zk) (fun _ _ _ h => h) (Or.inl ⟨by rfl, ?_⟩) ?_ ?_
                 rotate_left; exact zp; rotate_left; exact zq
                 refine done_ (done_of HT_.out zk) ?_
                 have p39 : 0 ≤ (x6_2 : Int) := zD
                 have q39 : (x6_2 : Int) < ((x4_2.length : Int) : Int) := zD
                 obtain ⟨go39, co39, eo39, gb39, gl39, cl39, HG39⟩ := Kd.R_form HO_4.out (by omega)
                 (first | cases eo39 | (injection eo39 with ea_ en_ ec_; (first | subst ea_ | (injection ea_ with ea_; subst ea_)); subst ec_; clear en_))
                 have GB39 := Aside0.mk gb39
                 have GG39 := Aside0.mk HG39
                 clear gb39 gl39 HG39
                 obtain ⟨hx39_0, hf39_0⟩ := Kd.R_celln 0 HO_4.out (x6_2 : Int) p39 q39
                 replace p39 := eq_true p39
                 replace q39 := eq_true q39
                 obtain ⟨hy41_, hz41_⟩ := Kd.R_celln 0 HO_4.out (x6_2 : Int) (zD) (zD)
                 have HP41 := Kd.R_putg HO_4.out (x6_2 : Int) x5_1
                 try go_wp2_with (first | ((with_reducible refine gate_store (t := 2) (p := 54) rfl ?_); refine store_event (t := 2) (p := 54) (v := ?vo_w42) (w1 := (w40.setCell ⟨go39, (x6_2 : Int).toNat, none⟩ (.int .i64 x5_1))) ?hg ?ho ?hn ?hr ?_; (case ho => rfl); (case hg => rfl); (case hn => rfl); (case hr => first | (go_simp; done) | (go_simp; rfl)); intro w42 hw; have hg : w40.grownBy w42 (some go39) := (by rw [hw]; exact HP41.2); have hp_ : Kd.R (Kd.int .i64) 2 w42 w.heap.size (fun _ => True) (.slice (some ⟨go39, 0, none⟩) x4_2.length co39) y116 := (by rw [hw, Ny116.out]; exact HP41.1); clear HP41; have n_ := y4 (hp_) (blk_grown (g := gb101) (o := .cells #[.slice A0_0 l0_0.length c0_0] 26 (0, 0)) (zG BK101.out) hg (Kd.R_ne HO_4.out BK101.out (by decide))) (blk_grown (g := gb102) (o := .cells #[.slice none 0 0] 26 (0, 0)) (zG BK102.out) hg (Kd.R_ne HO_4.out BK102.out (by decide))) ((by rw [hw]; exact below_set (HB.out) GB39.out : Below w.heap.size w w42)); clear HO_4 BK101 BK102 HB; obtain ⟨HO_4, BK101, BK102, HB⟩ := n_; clear hg hw hp_))
                 go_roundg k2
                 case measure => have := HK1.out; have := HK2.out; omega
                 case rel => exact ⟨(y116), (wrap64 (x5_1 + 1)), zF, H', ⟨by have := HK1.out; have := HK2.out; omega⟩, ⟨zR HO_4.out⟩, ⟨zG BK101.out⟩, ⟨zG BK102.out⟩, ⟨zB⟩⟩
               · rw [if_neg c38] at H
                 exact absurd H (by simp)
             · rw [if_neg c37] at H
               exact absurd H (by simp)
     · rw [if_neg c8] at H
       exact absurd H (by simp)
   · rw [if_neg c7] at H
     have c7b0 : decide (x5_1 < t106) = false := decide_eq_false c7
     clear c7
     obtain ⟨y117, hy117⟩ : ∃ y_ : List Int, y_ = (([] : List Int)) := ⟨_, rfl⟩
     replace H : (spec_l01Sorted.l2 k1 x4_1 0 l0_0 y117) = some (r1, r2) := zH hy117
     have Ny117 := Aside0.mk hy117
     clear hy117
     have H' := Aside0.mk H
     clear H
     have hnb43 := NB101_102.out
     have hnc43 := NB102_101.out
     have hcz44_0 := zc BK101.out
     have hfz44_0 := blk_frozen BK101.out 0
     go_wp2_with (first | ((with_reducible refine gate_callee (f := 46) rfl ?_); refine goesL_ (some 12) rfl rfl Try.func46 zk rfl #[.agg #[.slice A0_0 l0_0.length c0_0]] rfl zA ?_; (with_reducible refine (spec_l01K.calls _ _ l0_0 t106 _ ?side1 ?side2 A6.out).mono ?_); (case side1 => exact zC (Kd.C_below HR0_0.out HB.out)); (case side2 => exact HC0_0.out); rintro e w45 ⟨rfl, hb⟩; refine ⟨_, rfl, ?_⟩; have n_ := y4 (Kd.R_below (zR HO_4.out) hb) (zb BK101.out hb) (zb BK102.out hb) (below_step (zB) hb); clear HO_4 BK101 BK102 HB; obtain ⟨HO_4, BK101, BK102, HB⟩ := n_; (try clear hb); (try clear hb2); (try clear hk); (try clear hi)) | ((with_reducible refine gate_dst (N := 55) rfl ?_); refine Kd.R_lit (Kd.int .i64) _ 2 ?hg (N := 55) ?hd (xs := ([] : List Int)) (inner := []) (ok := fun _ => True) (okp := fun _ => True) ?hr ?hp (fun _ hk => hk) trivial (Below.refl _ _) (Nat.le_refl _) (by simp) ?_; (case hd => rfl); (case hg => rfl); (case hr => first | (go_simp; done) | (go_simp; rfl)); (case hp => exact (Reps.none _ _)); intro v118 w46 ho47 hb hg_ hnew_; clear hg_ hnew_; (first | rw [← Ny117.out] at ho47 | (simp only [Int.reduceToNat] at ho47; rw [← Ny117.out] at ho47)); have n_ := y5 (Kd.R_elder' (zR HO_4.out) (Kd.R_base ho47) hb) (Kd.R_lower (Kd.R_new' ho47 (Kd.R_lt (zR HO_4.out))) (below_size (zB))) (zb BK101.out hb) (zb BK102.out hb) (below_step (zB) hb); clear HO_4 BK101 BK102 HB; obtain ⟨HO_4, HO119, BK101, BK102, HB⟩ := n_; clear hb ho47; obtain ⟨Ao48, co48, eo48⟩ := Kd.R_slice HO119.out; subst eo48) | ((with_reducible refine gate_dst (N := 7) rfl ?_); refine box_event zr (N := 7) zr (cs := #[.slice none 0 0]) (t := 26) zg ?_; intro gb120 hg w49 hbox hb; have n_ := y12 (Kd.R_below (zR HO_4.out) hb) (Kd.R_below (zR HO119.out) hb) (zb BK101.out hb) (zb BK102.out hb) (below_step (zB) hb) (hbox) ((zS hg : w.heap.size ≤ gb120)) ((zS hg : w.heap.size ≤ gb120)) ((zL hg BK101.out : gb101 ≠ gb120)) ((zM hg BK101.out : gb120 ≠ gb101)) ((zL hg BK102.out : gb102 ≠ gb120)) ((zM hg BK102.out : gb120 ≠ gb102)); clear HO_4 HO119 BK101 BK102 HB; obtain ⟨HO_4, HO119, BK101, BK102, HB, BK120, GW120, GE120, NB101_120, NB120_101, NB102_120, NB120_102⟩ := n_; clear hb hbox hg; have hnb50 := NB120_101.out; have hnc50 := NB101_120.out; have hnb51 := NB120_102.out; have hnc51 := NB102_120.out; have hcz52_0 := zc BK120.out; have hfz52_0 := blk_frozen BK120.out 0))
     go_loopg [8] k1 (fun kq v8 w' => ∃ (x8_2 : Int) (x121000_2 : List Int) (u121000 : Value), v8 = .int .i64 x8_2 ∧ Aside0 (spec_l01Sorted.l2 kq x4_1 x8_2 l0_0 x121000_2 = some (r1, r2)) ∧ Aside0 (kq ≤ k1) ∧ Aside0 (Kd.R (Kd.int .i64) 2 w' w.heap.size (fun k_ => some k_ ≠ (u121000 : Value).ownBlock) u4 x4_1) ∧ Aside0 (Kd.R (Kd.int .i64) 2 w' w.heap.size (fun k_ => some k_ ≠ (u4 : Value).ownBlock) u121000 x121000_2) ∧ Aside0 (w'.heap[gb101]? = some (.cells #[(.slice A0_0 l0_0.length c0_0)] 26 (0, 0))) ∧ Aside0 (w'.heap[gb102]? = some (.cells #[(.slice none 0 0)] 26 (0, 0))) ∧ Aside0 (w'.heap[gb120]? = some (.cells #[u121000] 26 (0, 0))) ∧ Aside0 (Below w.heap.size w w'))
     case atStart => exact ⟨(0), (y117), (.slice Ao48 y117.length co48), zF, H', ⟨Nat.le_refl _⟩, ⟨by refine zR ?_; exact Kd.R_mono (Kd.R_far (p := ⟨gb120, 0, none⟩) (Kd.R_types HO_4.out BK120.out (by decide)) (fun _ hk => hk.2) (.slice Ao48 y117.length co48)) (fun _ hk => hk.1.2)⟩, ⟨by refine zR ?_; exact Kd.R_mono (Kd.R_far (p := ⟨gb120, 0, none⟩) (Kd.R_types HO119.out BK120.out (by decide)) (fun _ hk => hk.2) (.slice Ao48 y117.length co48)) (fun _ hk => hk.1.2)⟩, ⟨by refine zG ?_; refine blk_far ?_ NB101_120.out _; refine zG ?_; exact BK101.out⟩, ⟨by refine zG ?_; refine blk_far ?_ NB102_120.out _; refine zG ?_; exact BK102.out⟩, ⟨by refine zG ?_; refine blk_put (cs := #[.slice none 0 0]) ?_ 0 _ rfl; refine zG ?_; exact BK120.out⟩, ⟨zB⟩⟩
     case round =>
       clear H'
       try clear c7
       try clear c7b0
       try clear hcz44_0
       try clear hcz52_0
       try clear hfz44_0
       try clear hfz52_0
       obtain ⟨x8_2, x121000_2, u121000, rfl, HA, HK2, HO_4, HO_121000, BK101, BK102, BK120, HB⟩ := hrel
       cases gk with
       | zero => exact absurd HA.out (by simp [spec_l01Sorted.l2])
       | succ k2 =>
         have H := HA.out
         clear HA
         simp only [spec_l01Sorted.l2] at H
         by_cases c53 : x8_2 < (x4_1.length : Int)
         · rw [if_pos c53] at H
           have c53b0 : decide (x8_2 < (x4_1.length : Int)) = true := decide_eq_true c53
           clear c53
           by_cases c54 : 0 ≤ x8_2
           · rw [if_pos c54] at H
             have c54b0 : decide (0 ≤ x8_2) = true := decide_eq_true c54
             clear c54
             by_cases c55 : 0 ≤ (rd x4_1 x8_2)
             · rw [if_pos c55] at H
               have c55b0 : decide (0 ≤ (rd x4_1 x8_2)) = true := decide_eq_true c55
               clear c55
               by_cases c56 : (rd x4_1 x8_2) < (l0_0.length : Int)
               · rw [if_pos c56] at H
                 have c56b0 : decide ((rd x4_1 x8_2) < (l0_0.length : Int)) = true := decide_eq_true c56
                 clear c56
                 by_cases c57 : x121000_2.length < 17592186044416
                 · rw [if_pos c57] at H
                   have LMc57 := Aside0.mk c57
                   clear c57
                   obtain ⟨y123, hy123⟩ : ∃ y_ : List Int, y_ = (x121000_2 ++ [rd l0_0 (rd x4_1 x8_2)]) := ⟨_, rfl⟩
                   replace H : (spec_l01Sorted.l2 k2 x4_1 (wrap64 (x8_2 + 1)) l0_0 y123) = some (r1, r2) := zH hy123
                   have Ny123 := Aside0.mk hy123
                   clear hy123
                   have H' := Aside0.mk H
                   clear H
                   obtain ⟨Ao58, co58, eo58⟩ := Kd.R_slice HO_4.out
                   subst eo58
                   try go_wp2
                   have n_ := y6 (Kd.R_drew HO_4.out) (Kd.R_drew HO_121000.out) (blk_drew BK101.out) (blk_drew BK102.out) (blk_drew BK120.out) (below_drew1 HB.out)
                   clear HO_4 HO_121000 BK101 BK102 BK120 HB
                   obtain ⟨HO_4, HO_121000, BK101, BK102, BK120, HB⟩ := n_
                   have p121 : 0 ≤ (x8_2 : Int) := zD
                   have q121 : x8_2 < (x4_1.length : Int) := zD
                   obtain ⟨ad121, e121, hx121_0⟩ := Kd.at_int (Kd.R_reads' HO_4.out).2.2 x8_2 p121 q121
                   cases e121
                   replace p121 := eq_true p121
                   replace q121 := eq_true q121
                   have p122 : 0 ≤ ((rd x4_1 x8_2) : Int) := zD
                   have q122 : (rd x4_1 x8_2) < (l0_0.length : Int) := zD
                   obtain ⟨ad122, e122, hx122_0⟩ := Kd.at_int HR0_0.out (rd x4_1 x8_2) p122 q122
                   have hw122_0 := hx122_0
                   cases e122
                   replace hx122_0 := (HB.out.cell (World.block_lt_of_cell? w _ hx122_0)).trans hx122_0
                   replace p122 := eq_true p122
                   replace q122 := eq_true q122
                   refine start_ (n := 14) (S := fun w' => w'.cell? ⟨gb120, 0, none⟩ = some (u121000) ∧ w'.cell? ⟨gb101, 0, none⟩ = some (.slice (some ad122) l0_0.length c0_0) ∧ w'.cell? (ad121.add (x8_2).toNat) = some (.int .i64 (rd x4_1 x8_2)) ∧ w'.cell? (ad122.add ((rd x4_1 x8_2)).toNat) = some (.int .i64 (rd l0_0 (rd x4_1 x8_2)))) (ds := [11, 13]) #[false,false,false,false,false,false,false,false,false,false,false,false,false,false] zk rfl rfl ⟨(blk_cell BK120.out 0).trans rfl, (blk_cell BK101.out 0).trans rfl, hx121_0, ((HB.out.cell (World.block_lt_of_cell? w _ hw122_0)).trans hw122_0)⟩ (fun hHeld => ?_); refine with_tabW spec_l01Sorted.tab15 spec_l01Sorted.bits15 (fun HT_ HW_ => ?_)
                   generalize wr.drew = w59 at HO_4 HO_121000 BK101 BK102 BK120 HB hx121_0 hx122_0 hHeld ⊢
                   refine pure_ (i := 0) (N := some 63) (v := ?_) (a' := ?_) #[true,false,false,false,false,false,false,false,false,false,false,false,false,false] rfl rfl (any_of HT_.out zk) (fun _ _ _ h => h) (Or.inl ⟨by rfl, ?_⟩) ?_ ?_
                   rotate_left; exact zp; rotate_left; exact zq
                   refine pure_ (i := 2) (N := some 65) (v := ?_) (a' := ?_) #[true,false,true,false,false,false,false,false,false,false,false,false,false,false] rfl rfl (any_of HT_.out zk) (fun _ _ _ h => h) (Or.inl ⟨by rfl, ?_⟩) ?_ ?_
                   rotate_left; exact zp; rotate_left; exact zq
                   refine pure_ (i := 4) (N := some 67) (v := ?_) (a' := ?_) #[true,false,true,false,true,false,false,false,false,false,false,false,false,false] rfl rfl (any_of HT_.out zk) (fun _ _ _ h => h) (Or.inl ⟨by rfl, ?_⟩) ?_ ?_
                   rotate_left; exact zp; rotate_left; exact zq
                   refine pure_ (i := 5) (N := some 68) (v := ?_) (a' := ?_) #[true,false,true,false,true,true,false,false,false,false,false,false,false,false] rfl rfl (any_of HT_.out zk) (fun _ _ _ h => h) (Or.inl ⟨by rfl, ?_⟩) ?_ ?_
                   rotate_left; exact zp; rotate_left; exact zq
                   refine pure_ (i := 6) (N := some 69) (v := ?_) (a' := ?_) #[true,false,true,false,true,true,true,false,false,false,false,false,false,false] rfl rfl (any_of HT_.out zk) (fun _ _ _ h => h) (Or.inl ⟨by rfl, ?_⟩) ?_ ?_
                   rotate_left; exact zp; rotate_left; exact zq
                   refine take_ (i := 1) (N := some 64) (v := ?_) (a' := ?_) #[true,true,true,false,true,true,true,false,false,false,false,false,false,false] rfl rfl (take_ofW HT_.out HW_.out zk) (fun _ _ _ h => h) (Or.inl ⟨by rfl, ?_⟩) hHeld ?_ ?_
                   rotate_left
                   · rintro w' ⟨s0, s1, s2, s3⟩
                     go_simp
                     with_reducible rfl
                   rotate_left
                   · simp only [Act.put, List.setIfInBounds_toArray, List.set_cons_zero, List.set_cons_succ, i64_w, i32_w]
                     rfl
                   refine take_ (i := 3) (N := some 66) (v := ?_) (a' := ?_) #[true,true,true,true,true,true,true,false,false,false,false,false,false,false] rfl rfl (take_ofW HT_.out HW_.out zk) (fun _ _ _ h => h) (Or.inl ⟨by rfl, ?_⟩) hHeld ?_ ?_
                   rotate_left
                   · rintro w' ⟨s0, s1, s2, s3⟩
                     go_simp
                     with_reducible rfl
                   rotate_left
                   · simp only [Act.put, List.setIfInBounds_toArray, List.set_cons_zero, List.set_cons_succ, i64_w, i32_w]
                     rfl
                   refine take_ (i := 7) (N := some 70) (v := ?_) (a' := ?_) #[true,true,true,true,true,true,true,true,false,false,false,false,false,false] rfl rfl (take_ofW HT_.out HW_.out zk) (fun _ _ _ h => h) (Or.inl ⟨by rfl, ?_⟩) hHeld ?_ ?_
                   rotate_left
                   · rintro w' ⟨s0, s1, s2, s3⟩
                     go_simp
                     with_reducible rfl
                   rotate_left
                   · simp only [Act.put, List.setIfInBounds_toArray, List.set_cons_zero, List.set_cons_succ, i64_w, i32_w]
                     rfl
                   refine pure_ (i := 8) (N := some 71) (v := ?_) (a' := ?_) #[true,true,true,true,true,true,true,true,true,false,false,false,false,false] rfl rfl (any_of HT_.out zk) (fun _ _ _ h => h) (Or.inl ⟨by rfl, ?_⟩) ?_ ?_
                   rotate_left; exact zp; rotate_left; exact zq
                   refine take_ (i := 9) (N := some 72) (v := ?_) (a' := ?_) #[true,true,true,true,true,true,true,true,true,true,false,false,false,false] rfl rfl (take_ofW HT_.out HW_.out zk) (fun _ _ _ h => h) (Or.inl ⟨by rfl, ?_⟩) hHeld ?_ ?_
                   rotate_left
                   · rintro w' ⟨s0, s1, s2, s3⟩
                     go_simp
                     with_reducible rfl
                   rotate_left
                   · simp only [Act.put, List.setIfInBounds_toArray, List.set_cons_zero, List.set_cons_succ, i64_w, i32_w]
                     rfl
                   refine one_ (i := 10) (N := some 73) #[true,true,true,true,true,true,true,true,true,true,true,false,false,false] rfl rfl (one_of HT_.out zk) (by decide) (fun K hK => ?_)
                   refine value_ (w1 := ?_) (v := ?_) (by rfl) rfl ?_ ?_
                   rotate_left 2
                   · go_simp
                     constructor
                     · rfl
                     · rfl
                   refine hK.out _ _ ⟨(blk_cell (blk_alloc BK120.out _) 0).trans rfl, (blk_cell (blk_alloc BK101.out _) 0).trans rfl, (World.cell?_alloc_lt _ _ _ (World.block_lt_of_cell? _ _ (hHeld.2.2.1))).trans (hHeld.2.2.1), (World.cell?_alloc_lt _ _ _ (World.block_lt_of_cell? _ _ (((HB.out.cell (World.block_lt_of_cell? w _ hw122_0)).trans hw122_0)))).trans (((HB.out.cell (World.block_lt_of_cell? w _ hw122_0)).trans hw122_0))⟩ (fun hHeld => ?_)
                   clear hK K
                   refine norm_ (a' := ?_) ?_ ?_
                   rotate_left
                   · show Act.put _ (some 73) _ = _
                     simp only [Act.put, List.setIfInBounds_toArray, List.set_cons_zero, List.set_cons_succ, i64_w, i32_w]
                     rfl
                   refine last_ (i := 11) (N := some 74) #[true,true,true,true,true,true,true,true,true,true,true,true,false,false] rfl rfl (one_of HT_.out zk) (by decide) (fun K hK => ?_)
                   refine Kd.R_append_step (Kd.int .i64) (w0 := w) w.heap.size (by rfl) (.tmp 64) (.tmp 73) 24 2 (.int .i64 0) 8 rfl Try.underlying24 info2 rfl (by decide) (by omega) u121000 x121000_2 (rd l0_0 (rd x4_1 x8_2)) [.int .i64 (rd l0_0 (rd x4_1 x8_2))] (fun k_ => some k_ ≠ (.slice (some ad121) x4_1.length co58 : Value).ownBlock) (fun _ => False) rfl rfl ?aP (fun _ hk => hk.elim) ?aF ?aO ?aB ?aS ?aL ?_
                   (case aP => exact rfl)
                   (case aB => exact (zB))
                   (case aF => exact (fun k_ hk => Kd.fresh' (Kd.R_lt (zR HO_4.out)) k_ hk))
                   (case aO => exact (zR HO_121000.out))
                   (case aS => exact (below_size (zB)))
                   (case aL => have := LMc57.out; omega)
                   intro v124 w60 ho hb hg hat
                   rw [← Ny123.out] at ho
                   have n_ := y6 (Kd.R_after (ok := (fun _ => True)) (by refine zR ?_; exact Kd.R_mono HO_4.out (fun _ hk => ⟨trivial, hk⟩)) hg hat) (blk_grown (g := gb101) (o := .cells #[.slice (some ad122) l0_0.length c0_0] 26 (0, 0)) (zG BK101.out) hg (Kd.R_ne HO_121000.out BK101.out (by decide))) (blk_grown (g := gb102) (o := .cells #[.slice none 0 0] 26 (0, 0)) (zG BK102.out) hg (Kd.R_ne HO_121000.out BK102.out (by decide))) (blk_grown (g := gb120) (o := .cells #[u121000] 26 (0, 0)) (zG BK120.out) hg (Kd.R_ne HO_121000.out BK120.out (by decide))) (hb) (ho)
                   clear HO_4 BK101 BK102 BK120 HB HO_121000
                   obtain ⟨HO_4, BK101, BK102, BK120, HB, HO125⟩ := n_
                   clear ho hb hg hat
                   obtain ⟨Ao61, co61, eo61⟩ := Kd.R_slice HO125.out
                   (first | subst eo61 | (injection eo61 with f1_ f2_ f3_; have f4_ := f1_.symm; have f5_ := f3_.symm; clear f1_ f2_ f3_; subst f4_; subst f5_))
                   refine hK.out _ _ ?_
                   clear hK K
                   refine norm_ (a' := ?_) ?_ ?_
                   rotate_left
                   · show Act.put _ (some 74) _ = _
                     simp only [Act.put, List.setIfInBounds_toArray, List.set_cons_zero, List.set_cons_succ, i64_w, i32_w]
                     rfl
                   refine pure_ (i := 12) (N := some 75) (v := ?_) (a' := ?_) #[true,true,true,true,true,true,true,true,true,true,true,true,true,false] rfl rfl (any_of HT_.out zk) (fun _ _ _ h => h) (Or.inl ⟨by rfl, ?_⟩) ?_ ?_
                   rotate_left; exact zp; rotate_left; exact zq
                   refine last_ (i := 13) (N := none) #[true,true,true,true,true,true,true,true,true,true,true,true,true,true] rfl rfl (one_of HT_.out zk) (by decide) (fun K hK => ?_)
                   have hs62 : w60.cell? ⟨gb120, 0, none⟩ = some (u121000) := (blk_cell BK120.out 0).trans rfl
                   have hfs62 := blk_frozen BK120.out 0
                   have hns62_0 := NB101_120.out
                   have hns62_1 := NB102_120.out
                   have hms62_0 := NB120_101.out
                   have hms62_1 := NB120_102.out
                   refine skip_ (w1 := ?_) (by rfl) rfl ?_ ?_
                   rotate_left
                   · go_simp
                     rfl
                   refine hK.out _ _ ?_
                   clear hK K
                   refine done_ (done_of HT_.out zk) ?_
                   try go_wp2
                   go_roundg k2
                   case measure => have := HK1.out; have := HK2.out; omega
                   case rel => exact ⟨(wrap64 (x8_2 + 1)), (y123), (.slice Ao61 y123.length co61), zF, H', ⟨by have := HK1.out; have := HK2.out; omega⟩, ⟨by refine zR ?_; exact Kd.R_mono (Kd.R_far (p := ⟨gb120, 0, none⟩) (Kd.R_types HO_4.out BK120.out (by decide)) (fun _ hk => hk.2) (.slice Ao61 y123.length co61)) (fun _ hk => hk.1.2)⟩, ⟨by refine zR ?_; exact Kd.R_mono (Kd.R_far (p := ⟨gb120, 0, none⟩) (Kd.R_types HO125.out BK120.out (by decide)) (fun _ hk => hk.2) (.slice Ao61 y123.length co61)) (fun _ hk => hk.1)⟩, ⟨by refine zG ?_; refine blk_far ?_ NB101_120.out _; refine zG ?_; exact BK101.out⟩, ⟨by refine zG ?_; refine blk_far ?_ NB102_120.out _; refine zG ?_; exact BK102.out⟩, ⟨by refine zG ?_; refine blk_put (cs := #[u121000]) ?_ 0 _ rfl; refine zG ?_; exact BK120.out⟩, ⟨zB⟩⟩
                 · rw [if_neg c57] at H
                   exact absurd H (by simp)
               · rw [if_neg c56] at H
                 exact absurd H (by simp)
             · rw [if_neg c55] at H
               exact absurd H (by simp)
           · rw [if_neg c54] at H
             exact absurd H (by simp)
         · rw [if_neg c53] at H
           have c53b0 : decide (x8_2 < (x4_1.length : Int)) = false := decide_eq_false c53
           clear c53
           simp only [Option.some.injEq, Prod.mk.injEq] at H
           obtain ⟨rfl, rfl⟩ := H
           obtain ⟨Ao63, co63, eo63⟩ := Kd.R_slice HO_4.out
           subst eo63
           have hnb64 := NB120_101.out
           have hnc64 := NB101_120.out
           have hnb65 := NB120_102.out
           have hnc65 := NB102_120.out
           have hcz66_0 := zc BK120.out
           have hfz66_0 := blk_frozen BK120.out 0
           obtain ⟨Ao67, co67, eo67⟩ := Kd.R_slice HO_121000.out
           subst eo67
           have hnb68 := NB102_101.out
           have hnc68 := NB101_102.out
           have hcz69_0 := zc BK102.out
           have hfz69_0 := blk_frozen BK102.out 0
           go_wp2
           refine bodyPost_ret (results_ct rfl _ _ gb102 26 #[.slice Ao67 x121000_2.length co67] (0, 0) _ rfl (by refine zG ?_; refine blk_put (cs := #[.slice none 0 0]) ?_ 0 _ rfl; refine zG ?_; exact BK102.out) Try.underlying26 rfl zk) rfl ?_
           exact ⟨_, _, zE, by refine zR ?_; exact Kd.R_mono (Kd.R_far (p := ⟨gb102, 0, none⟩) (Kd.R_types HO_121000.out BK102.out (by decide)) (fun _ hk => hk.2) (.slice Ao67 x121000_2.length co67)) (fun _ hk => hk.1), by refine zR ?_; exact Kd.R_mono (Kd.R_far (p := ⟨gb102, 0, none⟩) (Kd.R_types HO_4.out BK102.out (by decide)) (fun _ hk => hk.2) (.slice Ao67 x121000_2.length co67)) (fun _ hk => hk.1), zB⟩
end Go.Proofs.Ytgbapmmfhdphmaa.P
end
section
namespace Go.Proofs.Ytgbapmmfhdphmaa.P
open Go.RowKit Go.Proofs.YtgbapmmfhdphmaaW.PrintWords Go.Proofs.YtgbapmmfhdphmaaW.PrintLast Go.Proofs.YtgbapmmfhdphmaaW.PrintMore
attribute [local go_sem] max2_int min2_int max_two min_two max_three min_three max_four min_four   -- for this text's walks alone
set_option linter.unusedVariables false
set_option linter.unusedSimpArgs false
mutual
def spec_l03Turns.l0 : Nat → List Int → List Int → Int → List Int → Option (List Int × Bool)
  | 0, _, _, _, _ => none
  | k + 1, x5, x6, x7, x109000 => if 0 ≤ (wrap64 ((x5.length : Int) - 1)) then (if (wrap64 ((x5.length : Int) - 1)) < (x109000.length : Int) then (if x7 < (rd x109000 (wrap64 ((x5.length : Int) - 1))) then (if x6.length < 17592186044416 then (spec_l03Turns.l0 k x5 (x6 ++ [(-1)]) (wrap64 (x7 + 1)) x109000) else (none)) else (spec_l03Turns.l1 k x5 x6 0 x109000)) else (none)) else (none)
def spec_l03Turns.l1 : Nat → List Int → List Int → Int → List Int → Option (List Int × Bool)
  | 0, _, _, _, _ => none
  | k + 1, x5, x6, x8, x109000 => if x8 < (x5.length : Int) then (spec_l03Turns.l2 k x5 x6 x8 0 x109000) else (some (x6, true))
def spec_l03Turns.j3 : Nat → List Int → List Int → Int → Int → List Int → Option (List Int × Bool)
  | 0, _, _, _, _, _ => none
  | k + 1, x5, x6, x8, x9, x109000 => if x9 = (x6.length : Int) then (some (([] : List Int), false)) else (spec_l03Turns.l3 k x5 x6 x8 x9 x109000)
def spec_l03Turns.l3 : Nat → List Int → List Int → Int → Int → List Int → Option (List Int × Bool)
  | 0, _, _, _, _, _ => none
  | k + 1, x5, x6, x8, x9, x109000 => if x9 < (x6.length : Int) then (if 0 ≤ x8 then (if x8 < (x5.length : Int) then (if 0 ≤ x9 then (if x8 < (x109000.length : Int) then (spec_l03Turns.l3 k x5 (x6.set (x9 : Int).toNat (rd x5 x8)) x8 (wrap64 (x9 + (rd x109000 x8))) x109000) else (none)) else (none)) else (none)) else (none)) else (spec_l03Turns.l1 k x5 x6 (wrap64 (x8 + 1)) x109000)
def spec_l03Turns.l2 : Nat → List Int → List Int → Int → Int → List Int → Option (List Int × Bool)
  | 0, _, _, _, _, _ => none
  | k + 1, x5, x6, x8, x9, x109000 => if x9 < (x6.length : Int) then (if 0 ≤ x9 then (if (rd x6 x9) ≥ 0 then (spec_l03Turns.l2 k x5 x6 x8 (wrap64 (x9 + 1)) x109000) else (spec_l03Turns.j3 k x5 x6 x8 x9 x109000)) else (none)) else (spec_l03Turns.j3 k x5 x6 x8 x9 x109000)
end
def spec_l03Turns.f (k : Nat) (l0_0 : List Int) : Option (List Int × Bool) := (spec_l01Sorted.f k l0_0).bind fun bt102 => (spec_l03Turns.l0 k bt102.2 (([] : List Int)) 0 bt102.1)
theorem spec_l03Turns.mono_l : ∀ k, (∀ y0 y1 y2 y3, LeO (spec_l03Turns.l0 k y0 y1 y2 y3) (spec_l03Turns.l0 (k + 1) y0 y1 y2 y3)) ∧ (∀ y0 y1 y2 y3, LeO (spec_l03Turns.l1 k y0 y1 y2 y3) (spec_l03Turns.l1 (k + 1) y0 y1 y2 y3)) ∧ (∀ y0 y1 y2 y3 y4, LeO (spec_l03Turns.j3 k y0 y1 y2 y3 y4) (spec_l03Turns.j3 (k + 1) y0 y1 y2 y3 y4)) ∧ (∀ y0 y1 y2 y3 y4, LeO (spec_l03Turns.l3 k y0 y1 y2 y3 y4) (spec_l03Turns.l3 (k + 1) y0 y1 y2 y3 y4)) ∧ (∀ y0 y1 y2 y3 y4, LeO (spec_l03Turns.l2 k y0 y1 y2 y3 y4) (spec_l03Turns.l2 (k + 1) y0 y1 y2 y3 y4))
  | 0 => ⟨fun _ _ _ _ r h => by simp [spec_l03Turns.l0] at h, fun _ _ _ _ r h => by simp [spec_l03Turns.l1] at h, fun _ _ _ _ _ r h => by simp [spec_l03Turns.j3] at h, fun _ _ _ _ _ r h => by simp [spec_l03Turns.l3] at h, fun _ _ _ _ _ r h => by simp [spec_l03Turns.l2] at h⟩
  | k + 1 => by
    obtain ⟨ih0, ih1, ih2, ih3, ih4⟩ := spec_l03Turns.mono_l k
    refine ⟨?_, ?_, ?_, ?_, ?_⟩ <;> intros <;> (first | unfold spec_l03Turns.l0 | unfold spec_l03Turns.l1 | unfold spec_l03Turns.j3 | unfold spec_l03Turns.l3 | unfold spec_l03Turns.l2) <;> repeat' first | (with_reducible exact ih0 _ _ _ _) | (with_reducible exact ih1 _ _ _ _) | (with_reducible exact ih2 _ _ _ _ _) | (with_reducible exact ih3 _ _ _ _ _) | (with_reducible exact ih4 _ _ _ _ _) | (with_reducible exact spec_l01Sorted.mono _ _) | (with_reducible exact LeO.refl _) | (with_reducible exact LeO.none _) | (with_reducible refine LeO.ite ?_ ?_) | (with_reducible refine LeO.bind ?_ (fun _ => ?_)) | exact ih0 _ _ _ _ | exact ih1 _ _ _ _ | exact ih2 _ _ _ _ _ | exact ih3 _ _ _ _ _ | exact ih4 _ _ _ _ _ | exact spec_l01Sorted.mono _ _ | exact LeO.none _ | refine LeO.ite ?_ ?_ | refine LeO.bind ?_ (fun _ => ?_)
theorem spec_l03Turns.mono : ∀ a0 k, LeO (spec_l03Turns.f k a0) (spec_l03Turns.f (k + 1) a0) := by
  intro a0 k
  obtain ⟨ih0, ih1, ih2, ih3, ih4⟩ := spec_l03Turns.mono_l k
  unfold spec_l03Turns.f
  repeat' first | (with_reducible exact ih0 _ _ _ _) | (with_reducible exact ih1 _ _ _ _) | (with_reducible exact ih2 _ _ _ _ _) | (with_reducible exact ih3 _ _ _ _ _) | (with_reducible exact ih4 _ _ _ _ _) | (with_reducible exact spec_l01Sorted.mono _ _) | (with_reducible exact LeO.refl _) | (with_reducible exact LeO.none _) | (with_reducible refine LeO.ite ?_ ?_) | (with_reducible refine LeO.bind ?_ (fun _ => ?_)) | exact ih0 _ _ _ _ | exact ih1 _ _ _ _ | exact ih2 _ _ _ _ _ | exact ih3 _ _ _ _ _ | exact ih4 _ _ _ _ _ | exact spec_l01Sorted.mono _ _ | exact LeO.none _ | refine LeO.ite ?_ ?_ | refine LeO.bind ?_ (fun _ => ?_)
set_option maxHeartbeats 8000000 in
set_option maxRecDepth 100000 in
theorem spec_l03Turns.calls (k : Nat) (A0_0 : Option Addr) (c0_0 : Nat) (l0_0 : List Int) (r1 : List Int) (r2 : Bool) (w : World) (hr0_0 : Kd.C (Kd.int .i64) w A0_0 l0_0.length l0_0) (hc0_0 : l0_0.length ≤ c0_0) (h : spec_l03Turns.f k l0_0 = some (r1, r2)) :
    Calls Try.prog 31 #[.agg #[.slice A0_0 l0_0.length c0_0]] w fun e w' => ∃ v0_ : Value, e = .returned (.tuple #[v0_, .bool r2]) ∧ Kd.R (Kd.int .i64) 2 w' w.heap.size (fun _ => True) v0_ r1 ∧ Below w.heap.size w w' := by
 have hu26 := Try.underlying26
 have HR0_0 := Aside0.mk hr0_0
 have HC0_0 := Aside0.mk hc0_0
 clear hr0_0 hc0_0
 have HB := Aside0.mk (Below.refl w.heap.size w)
 have H : ((spec_l01Sorted.f k l0_0).bind fun bt102 => (spec_l03Turns.l0 k bt102.2 (([] : List Int)) 0 bt102.1)) = some (r1, r2) := h
 clear h
 replace H := Option.bind_eq_some_iff.mp H
 obtain ⟨⟨t102, t105⟩, A20, H⟩ := H
 replace H : (spec_l03Turns.l0 k t105 (([] : List Int)) 0 t102) = some (r1, r2) := H
 have A2 := Aside0.mk A20
 clear A20
 obtain ⟨y109, hy109⟩ : ∃ y_ : List Int, y_ = (([] : List Int)) := ⟨_, rfl⟩
 replace H : (spec_l03Turns.l0 k t105 y109 0 t102) = some (r1, r2) := zH hy109
 have Ny109 := Aside0.mk hy109
 clear hy109
 have H' := Aside0.mk H
 clear H
 go_enter Try.func31, Try.ntmps31
 go_wp2_with (first | ((with_reducible refine gate_dst (N := 1) rfl ?_); refine box_event zr (N := 1) zr (cs := #[.slice A0_0 l0_0.length c0_0]) (t := 26) zg ?_; intro gb101 hg w3 hbox hb; have n_ := y4 (below_step (zB) hb) (hbox) ((zS hg : w.heap.size ≤ gb101)) ((zS hg : w.heap.size ≤ gb101)); clear HB; obtain ⟨HB, BK101, GW101, GE101⟩ := n_; clear hb hbox hg; have hcz4_0 := zc BK101.out; have hfz4_0 := blk_frozen BK101.out 0) | ((with_reducible refine gate_callee (f := 56) rfl ?_); refine goesL_ (some 12) rfl rfl Try.func56 zk rfl #[.agg #[.slice A0_0 l0_0.length c0_0]] rfl zA ?_; (with_reducible refine (spec_l01Sorted.calls k _ _ l0_0 t102 t105 _ ?side1 ?side2 A2.out).mono ?_); (case side1 => exact zC (Kd.C_below HR0_0.out HB.out)); (case side2 => exact HC0_0.out); rintro e w5 ⟨v103, v106, rfl, ho0, ho1, hb⟩; refine ⟨_, rfl, ?_⟩; have n_ := y4 (Kd.R_lower ho0 (below_size (zB))) (Kd.R_lower ho1 (below_size (zB))) (zb BK101.out hb) (below_step (zB) hb); clear BK101 HB; obtain ⟨HO104, HO107, BK101, HB⟩ := n_; (try clear hb); (try clear hb2); (try clear hk); (try clear hi); (try clear ho0); (try clear ho1)) | ((with_reducible refine gate_dst (N := 4) rfl ?_); refine box_event zr (N := 4) zr (cs := #[.slice none 0 0]) (t := 26) zg ?_; intro gb108 hg w6 hbox hb; have n_ := y9 (Kd.R_below (zR HO104.out) hb) (Kd.R_below (zR HO107.out) hb) (zb BK101.out hb) (below_step (zB) hb) (hbox) ((zS hg : w.heap.size ≤ gb108)) ((zS hg : w.heap.size ≤ gb108)) ((zL hg BK101.out : gb101 ≠ gb108)) ((zM hg BK101.out : gb108 ≠ gb101)); clear HO104 HO107 BK101 HB; obtain ⟨HO104, HO107, BK101, HB, BK108, GW108, GE108, NB101_108, NB108_101⟩ := n_; clear hb hbox hg; obtain ⟨Ao7, co7, eo7⟩ := Kd.R_slice HO104.out; subst eo7; have hnb8 := NB108_101.out; have hnc8 := NB101_108.out; have hcz9_0 := zc BK108.out; have hfz9_0 := blk_frozen BK108.out 0) | ((with_reducible refine gate_dst (N := 15) rfl ?_); refine Kd.R_lit (Kd.int .i64) _ 2 ?hg (N := 15) ?hd (xs := ([] : List Int)) (inner := []) (ok := fun _ => True) (okp := fun _ => True) ?hr ?hp (fun _ hk => hk) trivial (Below.refl _ _) (Nat.le_refl _) (by simp) ?_; (case hd => rfl); (case hg => rfl); (case hr => first | (go_simp; done) | (go_simp; rfl)); (case hp => exact (Reps.none _ _)); intro v110 w10 ho11 hb hg_ hnew_; clear hg_ hnew_; (first | rw [← Ny109.out] at ho11 | (simp only [Int.reduceToNat] at ho11; rw [← Ny109.out] at ho11)); have n_ := y6 (Kd.R_elder' (by refine zR ?_; exact (Kd.R_mono (Kd.R_far (p := ⟨gb108, 0, none⟩) (Kd.R_types HO104.out BK108.out (by decide)) (fun _ hk => hk.2) (.slice Ao7 t102.length co7)) (fun _ h_ => h_.1))) (Kd.R_base ho11) hb) (Kd.R_elder' (by refine zR ?_; exact (Kd.R_mono (Kd.R_far (p := ⟨gb108, 0, none⟩) (Kd.R_types HO107.out BK108.out (by decide)) (fun _ hk => hk.2) (.slice Ao7 t102.length co7)) (fun _ h_ => h_.1))) (Kd.R_base ho11) hb) (Kd.R_lower (Kd.R_new' (Kd.R_new' ho11 (Kd.R_lt (by refine zR ?_; exact (Kd.R_mono (Kd.R_far (p := ⟨gb108, 0, none⟩) (Kd.R_types HO104.out BK108.out (by decide)) (fun _ hk => hk.2) (.slice Ao7 t102.length co7)) (fun _ h_ => h_.1))))) (Kd.R_lt (by refine zR ?_; exact (Kd.R_mono (Kd.R_far (p := ⟨gb108, 0, none⟩) (Kd.R_types HO107.out BK108.out (by decide)) (fun _ hk => hk.2) (.slice Ao7 t102.length co7)) (fun _ h_ => h_.1))))) (below_size (zB))) (blk_below (g := gb101) (o := .cells #[.slice A0_0 l0_0.length c0_0] 26 (0, 0)) (by refine zG ?_; refine blk_far ?_ NB101_108.out _; refine zG ?_; exact BK101.out) hb) (blk_below (g := gb108) (o := .cells #[.slice Ao7 t102.length co7] 26 (0, 0)) (by refine zG ?_; refine blk_put (cs := #[.slice none 0 0]) ?_ 0 _ rfl; refine zG ?_; exact BK108.out) hb) (below_step (zB) hb); clear HO104 HO107 BK101 BK108 HB; obtain ⟨HO104, HO107, HO111, BK101, BK108, HB⟩ := n_; clear hb ho11))
 go_loopg [6, 7] k (fun kq v6 v7 w' => ∃ (x6_1 : List Int) (x7_1 : Int), v7 = .int .i64 x7_1 ∧ Aside0 (spec_l03Turns.l0 kq t105 x6_1 x7_1 t102 = some (r1, r2)) ∧ Aside0 (kq ≤ k) ∧ Aside0 (Kd.R (Kd.int .i64) 2 w' w.heap.size (fun k_ => some k_ ≠ (v6 : Value).ownBlock ∧ some k_ ≠ ((.slice Ao7 t102.length co7) : Value).ownBlock) v106 t105) ∧ Aside0 (Kd.R (Kd.int .i64) 2 w' w.heap.size (fun k_ => some k_ ≠ (v106 : Value).ownBlock ∧ some k_ ≠ ((.slice Ao7 t102.length co7) : Value).ownBlock) v6 x6_1) ∧ Aside0 (Kd.R (Kd.int .i64) 2 w' w.heap.size (fun k_ => some k_ ≠ (v106 : Value).ownBlock ∧ some k_ ≠ (v6 : Value).ownBlock) (.slice Ao7 t102.length co7) t102) ∧ Aside0 (w'.heap[gb101]? = some (.cells #[(.slice A0_0 l0_0.length c0_0)] 26 (0, 0))) ∧ Aside0 (w'.heap[gb108]? = some (.cells #[(.slice Ao7 t102.length co7)] 26 (0, 0))) ∧ Aside0 (Below w.heap.size w w'))
 case atStart => exact ⟨(y109), (0), zF, H', ⟨Nat.le_refl _⟩, ⟨by refine zR ?_; exact Kd.R_mono HO107.out (fun _ hk => ⟨hk.2, hk.1⟩)⟩, ⟨by refine zR ?_; exact Kd.R_mono HO111.out (fun _ hk => ⟨hk.2, hk.1.2⟩)⟩, ⟨zR HO104.out⟩, ⟨zG BK101.out⟩, ⟨zG BK108.out⟩, ⟨zB⟩⟩
 clear H'
 try clear hcz4_0
 try clear hcz9_0
 try clear hfz4_0
 try clear hfz9_0
 obtain ⟨x6_1, x7_1, rfl, HA, HK1, HO_5, HO_6, HO_109000, BK101, BK108, HB⟩ := hrel
 cases gk with
 | zero => exact absurd HA.out (by simp [spec_l03Turns.l0])
 | succ k1 =>
   have H := HA.out
   clear HA
   simp only [spec_l03Turns.l0] at H
   obtain ⟨ji12, hji12⟩ : ∃ j_ : Int, (wrap64 ((t105.length : Int) - 1)) = j_ := ⟨_, rfl⟩
   replace H : (if 0 ≤ (ji12) then (if (ji12) < (t102.length : Int) then (if x7_1 < (rd t102 (ji12)) then (if x6_1.length < 17592186044416 then (spec_l03Turns.l0 k1 t105 (x6_1 ++ [(-1)]) (wrap64 (x7_1 + 1)) t102) else (none)) else (spec_l03Turns.l1 k1 t105 x6_1 0 t102)) else (none)) else (none)) = some (r1, r2) := by first | (rw [hji12] at H; exact H) | (simp only [hji12] at H ⊢; exact H)
   have hji12w : (IntKind.i64.wrap ((t105.length : Int) - 1)) = ji12 := (i64_w _).trans hji12
   by_cases c13 : 0 ≤ (ji12)
   · rw [if_pos c13] at H
     have c13b0 : decide (0 ≤ (ji12)) = true := decide_eq_true c13
     clear c13
     by_cases c14 : (ji12) < (t102.length : Int)
     · rw [if_pos c14] at H
       have c14b0 : decide ((ji12) < (t102.length : Int)) = true := decide_eq_true c14
       clear c14
       by_cases c15 : x7_1 < (rd t102 (ji12))
       · rw [if_pos c15] at H
         have c15b0 : decide (x7_1 < (rd t102 (ji12))) = true := decide_eq_true c15
         clear c15
         by_cases c16 : x6_1.length < 17592186044416
         · rw [if_pos c16] at H
           have LMc16 := Aside0.mk c16
           clear c16
           obtain ⟨y113, hy113⟩ : ∃ y_ : List Int, y_ = (x6_1 ++ [(-1)]) := ⟨_, rfl⟩
           replace H : (spec_l03Turns.l0 k1 t105 y113 (wrap64 (x7_1 + 1)) t102) = some (r1, r2) := zH hy113
           have Ny113 := Aside0.mk hy113
           clear hy113
           have H' := Aside0.mk H
           clear H
           have hnb17 := NB108_101.out
           have hnc17 := NB101_108.out
           have hcz18_0 := zc BK108.out
           have hfz18_0 := blk_frozen BK108.out 0
           obtain ⟨Ao19, co19, eo19⟩ := Kd.R_slice HO_5.out
           subst eo19
           have p112 : 0 ≤ ((ji12) : Int) := zD
           have q112 : (ji12) < (t102.length : Int) := zD
           obtain ⟨ad112, e112, hx112_0⟩ := Kd.at_int (Kd.R_reads' HO_109000.out).2.2 (ji12) p112 q112
           cases e112
           replace p112 := eq_true p112
           replace q112 := eq_true q112
           go_wp2_with (first | ((with_reducible refine gate_builtin (b := .append) (xs := #[.tmp 27, .tmp 28]) rfl ?_); at_builtin; refine Kd.R_append (Kd.int .i64) (w0 := w) w.heap.size rfl (.tmp 27) (.tmp 28) 24 2 (.int .i64 0) 8 rfl Try.underlying24 info2 rfl (by decide) (by omega) u6 x6_1 (-1) [.int .i64 (-1)] (fun k_ => some k_ ≠ (.slice Ao19 t105.length co19 : Value).ownBlock ∧ some k_ ≠ (.slice (some ad112) t102.length co7 : Value).ownBlock) (fun _ => False) rfl rfl ?aP (fun _ hk => hk.elim) ?aF ?aO ?aB ?aS ?aL ?_; (case aP => exact rfl); (case aB => exact (zB)); (case aF => exact (fun k_ hk => ⟨Kd.fresh' (Kd.R_lt (zR HO_5.out)) k_ hk, Kd.fresh' (Kd.R_lt (zR HO_109000.out)) k_ hk⟩)); (case aO => exact (zR HO_6.out)); (case aS => exact (below_size (zB))); (case aL => have := LMc16.out; omega); intro v114 w20 ho hb hg hat; rw [← Ny113.out] at ho; have n_ := y6 (Kd.R_after (ok := (fun k_ => some k_ ≠ (.slice (some ad112) t102.length co7 : Value).ownBlock)) (by refine zR ?_; exact Kd.R_mono HO_5.out (fun _ hk => ⟨hk.2, hk.1⟩)) hg hat) (Kd.R_after (ok := (fun k_ => some k_ ≠ (.slice Ao19 t105.length co19 : Value).ownBlock)) (zR HO_109000.out) hg hat) (blk_grown (g := gb101) (o := .cells #[.slice A0_0 l0_0.length c0_0] 26 (0, 0)) (zG BK101.out) hg (Kd.R_ne HO_6.out BK101.out (by decide))) (blk_grown (g := gb108) (o := .cells #[.slice (some ad112) t102.length co7] 26 (0, 0)) (zG BK108.out) hg (Kd.R_ne HO_6.out BK108.out (by decide))) (hb) (ho); clear HO_5 HO_109000 BK101 BK108 HB HO_6; obtain ⟨HO_5, HO_109000, BK101, BK108, HB, HO115⟩ := n_; clear ho hb hg hat))
           go_roundg k1
           case measure => have := HK1.out; omega
           case rel => exact ⟨(y113), (wrap64 (x7_1 + 1)), zF, H', ⟨by have := HK1.out; omega⟩, ⟨by refine zR ?_; exact Kd.R_mono HO_5.out (fun _ hk => ⟨hk.2, hk.1⟩)⟩, ⟨zR HO115.out⟩, ⟨zR HO_109000.out⟩, ⟨zG BK101.out⟩, ⟨zG BK108.out⟩, ⟨zB⟩⟩
         · rw [if_neg c16] at H
           exact absurd H (by simp)
       · rw [if_neg c15] at H
         have c15b0 : decide (x7_1 < (rd t102 (ji12))) = false := decide_eq_false c15
         clear c15
         have H' := Aside0.mk H
         clear H
         have hnb21 := NB108_101.out
         have hnc21 := NB101_108.out
         have hcz22_0 := zc BK108.out
         have hfz22_0 := blk_frozen BK108.out 0
         obtain ⟨Ao23, co23, eo23⟩ := Kd.R_slice HO_5.out
         subst eo23
         have p112 : 0 ≤ ((ji12) : Int) := zD
         have q112 : (ji12) < (t102.length : Int) := zD
         obtain ⟨ad112, e112, hx112_0⟩ := Kd.at_int (Kd.R_reads' HO_109000.out).2.2 (ji12) p112 q112
         cases e112
         replace p112 := eq_true p112
         replace q112 := eq_true q112
         go_wp2
         go_loopg [8] k1 (fun kq v8 w' => ∃ (x6_2 : List Int) (x8_2 : Int), v8 = .int .i64 x8_2 ∧ Aside0 (spec_l03Turns.l1 kq t105 x6_2 x8_2 t102 = some (r1, r2)) ∧ Aside0 (kq ≤ k1) ∧ Aside0 (Kd.R (Kd.int .i64) 2 w' w.heap.size (fun k_ => some k_ ≠ (u6 : Value).ownBlock ∧ some k_ ≠ ((.slice (some ad112) t102.length co7) : Value).ownBlock) (.slice Ao23 t105.length co23) t105) ∧ Aside0 (Kd.R (Kd.int .i64) 2 w' w.heap.size (fun k_ => some k_ ≠ ((.slice Ao23 t105.length co23) : Value).ownBlock ∧ some k_ ≠ ((.slice (some ad112) t102.length co7) : Value).ownBlock) u6 x6_2) ∧ Aside0 (Kd.R (Kd.int .i64) 2 w' w.heap.size (fun k_ => some k_ ≠ ((.slice Ao23 t105.length co23) : Value).ownBlock ∧ some k_ ≠ (u6 : Value).ownBlock) (.slice (some ad112) t102.length co7) t102) ∧ Aside0 (w'.heap[gb101]? = some (.cells #[(.slice A0_0 l0_0.length c0_0)] 26 (0, 0))) ∧ Aside0 (w'.heap[gb108]? = some (.cells #[(.slice (some ad112) t102.length co7)] 26 (0, 0))) ∧ Aside0 (Below w.heap.size w w'))
         case atStart => exact ⟨(x6_1), (0), zF, H', ⟨Nat.le_refl _⟩, ⟨zR HO_5.out⟩, ⟨zR HO_6.out⟩, ⟨zR HO_109000.out⟩, ⟨zG BK101.out⟩, ⟨zG BK108.out⟩, ⟨zB⟩⟩
         case round =>
           clear H'
           try clear c13
           try clear c13b0
           try clear c14
           try clear c14b0
           try clear c15
           try clear c15b0
           try clear hcz22_0
           try clear hcz4_0
           try clear hcz9_0
           try clear hfz22_0
           try clear hfz4_0
           try clear hfz9_0
           try clear hx112_0
           try clear p112
           try clear q112
           obtain ⟨x6_2, x8_2, rfl, HA, HK2, HO_5, HO_6, HO_109000, BK101, BK108, HB⟩ := hrel
           cases gk with
           | zero => exact absurd HA.out (by simp [spec_l03Turns.l1])
           | succ k2 =>
             have H := HA.out
             clear HA
             simp only [spec_l03Turns.l1] at H
             by_cases c24 : x8_2 < (t105.length : Int)
             · rw [if_pos c24] at H
               have c24b0 : decide (x8_2 < (t105.length : Int)) = true := decide_eq_true c24
               clear c24
               have HC25 := Aside0.mk H
               clear H
               go_upto_block 4 with (fail)
               go_cut [9] (fun v9 wc => ∃ (kq : Nat) (x9_24 : Int), v9 = .int .i64 x9_24 ∧ Aside0 (spec_l03Turns.j3 kq t105 x6_2 x8_2 x9_24 t102 = some (r1, r2)) ∧ Aside0 (kq ≤ k2) ∧ Aside0 (Kd.R (Kd.int .i64) 2 wc w.heap.size (fun k_ => some k_ ≠ (u6 : Value).ownBlock ∧ some k_ ≠ ((.slice (some ad112) t102.length co7) : Value).ownBlock) (.slice Ao23 t105.length co23) t105) ∧ Aside0 (Kd.R (Kd.int .i64) 2 wc w.heap.size (fun k_ => some k_ ≠ ((.slice Ao23 t105.length co23) : Value).ownBlock ∧ some k_ ≠ ((.slice (some ad112) t102.length co7) : Value).ownBlock) u6 x6_2) ∧ Aside0 (Kd.R (Kd.int .i64) 2 wc w.heap.size (fun k_ => some k_ ≠ ((.slice Ao23 t105.length co23) : Value).ownBlock ∧ some k_ ≠ (u6 : Value).ownBlock) (.slice (some ad112) t102.length co7) t102) ∧ Aside0 (wc.heap[gb101]? = some (.cells #[(.slice A0_0 l0_0.length c0_0)] 26 (0, 0))) ∧ Aside0 (wc.heap[gb108]? = some (.cells #[(.slice (some ad112) t102.length co7)] 26 (0, 0))) ∧ Aside0 (Below w.heap.size w wc))
               case first =>
                 have H := HC25.out
                 clear HC25
                 have H' := Aside0.mk H
                 clear H
                 go_wp2
                 go_loopg [9] k2 (fun kq v9 w' => ∃ (x9_3 : Int), v9 = .int .i64 x9_3 ∧ Aside0 (spec_l03Turns.l2 kq t105 x6_2 x8_2 x9_3 t102 = some (r1, r2)) ∧ Aside0 (kq ≤ k2) ∧ Aside0 (Kd.R (Kd.int .i64) 2 w' w.heap.size (fun k_ => some k_ ≠ (u6 : Value).ownBlock ∧ some k_ ≠ ((.slice (some ad112) t102.length co7) : Value).ownBlock) (.slice Ao23 t105.length co23) t105) ∧ Aside0 (Kd.R (Kd.int .i64) 2 w' w.heap.size (fun k_ => some k_ ≠ ((.slice Ao23 t105.length co23) : Value).ownBlock ∧ some k_ ≠ ((.slice (some ad112) t102.length co7) : Value).ownBlock) u6 x6_2) ∧ Aside0 (Kd.R (Kd.int .i64) 2 w' w.heap.size (fun k_ => some k_ ≠ ((.slice Ao23 t105.length co23) : Value).ownBlock ∧ some k_ ≠ (u6 : Value).ownBlock) (.slice (some ad112) t102.length co7) t102) ∧ Aside0 (w'.heap[gb101]? = some (.cells #[(.slice A0_0 l0_0.length c0_0)] 26 (0, 0))) ∧ Aside0 (w'.heap[gb108]? = some (.cells #[(.slice (some ad112) t102.length co7)] 26 (0, 0))) ∧ Aside0 (Below w.heap.size w w'))
                 case atStart => exact ⟨(0), zF, H', ⟨Nat.le_refl _⟩, ⟨zR HO_5.out⟩, ⟨zR HO_6.out⟩, ⟨zR HO_109000.out⟩, ⟨zG BK101.out⟩, ⟨zG BK108.out⟩, ⟨zB⟩⟩
                 case round =>
                   clear H'
                   try clear c13
                   try clear c13b0
                   try clear c14
                   try clear c14b0
                   try clear c15
                   try clear c15b0
                   try clear c24
                   try clear c24b0
                   try clear hcz22_0
                   try clear hcz4_0
                   try clear hcz9_0
                   try clear hfz22_0
                   try clear hfz4_0
                   try clear hfz9_0
                   try clear hx112_0
                   try clear p112
                   try clear q112
                   obtain ⟨x9_3, rfl, HA, HK3, HO_5, HO_6, HO_109000, BK101, BK108, HB⟩ := hrel
                   cases gk with
                   | zero => exact absurd HA.out (by simp [spec_l03Turns.l2])
                   | succ k3 =>
                     have H := HA.out
                     clear HA
                     simp only [spec_l03Turns.l2] at H
                     by_cases c26 : x9_3 < (x6_2.length : Int)
                     · rw [if_pos c26] at H
                       have c26b0 : decide (x9_3 < (x6_2.length : Int)) = true := decide_eq_true c26
                       clear c26
                       (first | rw [c26b0] | (simp only [i64_w, i32_w]; rw [c26b0]) | skip)
                       by_cases c27 : 0 ≤ x9_3
                       · rw [if_pos c27] at H
                         have c27b0 : decide (0 ≤ x9_3) = true := decide_eq_true c27
                         clear c27
                         by_cases c28 : (rd x6_2 x9_3) ≥ 0
                         · rw [if_pos c28] at H
                           have c28b0 : decide (0 ≤ (rd x6_2 x9_3)) = true := decide_eq_true c28
                           clear c28
                           have H' := Aside0.mk H
                           clear H
                           obtain ⟨Ao29, co29, eo29⟩ := Kd.R_slice HO_6.out
                           subst eo29
                           have p116 : 0 ≤ (x9_3 : Int) := zD
                           have q116 : x9_3 < (x6_2.length : Int) := zD
                           obtain ⟨ad116, e116, hx116_0⟩ := Kd.at_int (Kd.R_reads' HO_6.out).2.2 x9_3 p116 q116
                           cases e116
                           replace p116 := eq_true p116
                           replace q116 := eq_true q116
                           go_wp2
                           go_roundg k3
                           case measure => have := HK1.out; have := HK2.out; have := HK3.out; omega
                           case rel => exact ⟨(wrap64 (x9_3 + 1)), zF, H', ⟨by have := HK1.out; have := HK2.out; have := HK3.out; omega⟩, ⟨zR HO_5.out⟩, ⟨zR HO_6.out⟩, ⟨zR HO_109000.out⟩, ⟨zG BK101.out⟩, ⟨zG BK108.out⟩, ⟨zB⟩⟩
                         · rw [if_neg c28] at H
                           have c28b0 : decide (0 ≤ (rd x6_2 x9_3)) = false := decide_eq_false c28
                           clear c28
                           have H' := Aside0.mk H
                           clear H
                           obtain ⟨Ao30, co30, eo30⟩ := Kd.R_slice HO_6.out
                           subst eo30
                           have p116 : 0 ≤ (x9_3 : Int) := zD
                           have q116 : x9_3 < (x6_2.length : Int) := zD
                           obtain ⟨ad116, e116, hx116_0⟩ := Kd.at_int (Kd.R_reads' HO_6.out).2.2 x9_3 p116 q116
                           cases e116
                           replace p116 := eq_true p116
                           replace q116 := eq_true q116
                           go_wp2
                           go_meet
                           case rel => exact ⟨_, (x9_3), zF, H', ⟨by have := HK1.out; have := HK2.out; have := HK3.out; first | omega | exact Nat.le_refl _⟩, ⟨zR HO_5.out⟩, ⟨zR HO_6.out⟩, ⟨zR HO_109000.out⟩, ⟨zG BK101.out⟩, ⟨zG BK108.out⟩, ⟨zB⟩⟩
                       · rw [if_neg c27] at H
                         exact absurd H (by simp)
                     · rw [if_neg c26] at H
                       have c26b0 : decide (x9_3 < (x6_2.length : Int)) = false := decide_eq_false c26
                       clear c26
                       (first | rw [c26b0] | (simp only [i64_w, i32_w]; rw [c26b0]) | skip)
                       have H' := Aside0.mk H
                       clear H
                       obtain ⟨Ao31, co31, eo31⟩ := Kd.R_slice HO_6.out
                       subst eo31
                       go_wp2
                       go_meet
                       case rel => exact ⟨_, (x9_3), zF, H', ⟨by have := HK1.out; have := HK2.out; have := HK3.out; first | omega | exact Nat.le_refl _⟩, ⟨zR HO_5.out⟩, ⟨zR HO_6.out⟩, ⟨zR HO_109000.out⟩, ⟨zG BK101.out⟩, ⟨zG BK108.out⟩, ⟨zB⟩⟩
               case rest =>
                 clear HC25
                 try clear c13
                 try clear c13b0
                 try clear c14
                 try clear c14b0
                 try clear c15
                 try clear c15b0
                 try clear c24
                 try clear c24b0
                 try clear hcz22_0
                 try clear hcz4_0
                 try clear hcz9_0
                 try clear hfz22_0
                 try clear hfz4_0
                 try clear hfz9_0
                 try clear hx112_0
                 try clear p112
                 try clear q112
                 obtain ⟨kq, x9_24, rfl, HA, HJ24, HO_5, HO_6, HO_109000, BK101, BK108, HB⟩ := hcut
                 cases kq with
                 | zero => exact absurd HA.out (by simp [spec_l03Turns.j3])
                 | succ kj24 =>
                   have H := HA.out
                   clear HA
                   simp only [spec_l03Turns.j3] at H
                   by_cases c32 : x9_24 = (x6_2.length : Int)
                   · rw [if_pos c32] at H
                     have c32b0 : (x9_24 == (x6_2.length : Int)) = true := beq_iff_eq.mpr c32
                     have c32b1 : (x9_24 != (x6_2.length : Int)) = false := bne_eq_false_iff_eq.mpr c32
                     clear c32
                     simp only [Option.some.injEq, Prod.mk.injEq] at H
                     obtain ⟨rfl, rfl⟩ := H
                     obtain ⟨Ao33, co33, eo33⟩ := Kd.R_slice HO_6.out
                     subst eo33
                     go_wp2
                     go_ret2
                     exact ⟨_, by first | rfl | (simp [errW_none, errW_some] <;> rfl) | (simp only [← hji12]; first | rfl | (simp [errW_none, errW_some] <;> rfl)) | (simp [*, errW_none, errW_some] <;> rfl), zN, zB⟩
                   · rw [if_neg c32] at H
                     have c32b0 : (x9_24 == (x6_2.length : Int)) = false := beq_eq_false_iff_ne.mpr c32
                     have c32b1 : (x9_24 != (x6_2.length : Int)) = true := bne_iff_ne.mpr c32
                     have H' := Aside0.mk H
                     clear H
                     obtain ⟨Ao34, co34, eo34⟩ := Kd.R_slice HO_6.out
                     subst eo34
                     go_wp2
                     go_loopg [9] kj24 (fun kq v9 w' => ∃ (x6_4 : List Int) (x9_4 : Int), v9 = .int .i64 x9_4 ∧ Aside0 (spec_l03Turns.l3 kq t105 x6_4 x8_2 x9_4 t102 = some (r1, r2)) ∧ Aside0 (kq ≤ kj24) ∧ Aside0 (Kd.R (Kd.int .i64) 2 w' w.heap.size (fun k_ => some k_ ≠ ((.slice Ao34 x6_2.length co34) : Value).ownBlock ∧ some k_ ≠ ((.slice (some ad112) t102.length co7) : Value).ownBlock) (.slice Ao23 t105.length co23) t105) ∧ Aside0 (Kd.R (Kd.int .i64) 2 w' w.heap.size (fun k_ => some k_ ≠ ((.slice Ao23 t105.length co23) : Value).ownBlock ∧ some k_ ≠ ((.slice (some ad112) t102.length co7) : Value).ownBlock) (.slice Ao34 x6_2.length co34) x6_4) ∧ Aside0 (Kd.R (Kd.int .i64) 2 w' w.heap.size (fun k_ => some k_ ≠ ((.slice Ao23 t105.length co23) : Value).ownBlock ∧ some k_ ≠ ((.slice Ao34 x6_2.length co34) : Value).ownBlock) (.slice (some ad112) t102.length co7) t102) ∧ Aside0 (w'.heap[gb101]? = some (.cells #[(.slice A0_0 l0_0.length c0_0)] 26 (0, 0))) ∧ Aside0 (w'.heap[gb108]? = some (.cells #[(.slice (some ad112) t102.length co7)] 26 (0, 0))) ∧ Aside0 (Below w.heap.size w w'))
                     case atStart => exact ⟨(x6_2), (x9_24), zF, H', ⟨Nat.le_refl _⟩, ⟨zR HO_5.out⟩, ⟨zR HO_6.out⟩, ⟨zR HO_109000.out⟩, ⟨zG BK101.out⟩, ⟨zG BK108.out⟩, ⟨zB⟩⟩
                     case round =>
                       clear H'
                       try clear c13
                       try clear c13b0
                       try clear c14
                       try clear c14b0
                       try clear c15
                       try clear c15b0
                       try clear c24
                       try clear c24b0
                       try clear c32
                       try clear c32b0
                       try clear c32b1
                       try clear hcz22_0
                       try clear hcz4_0
                       try clear hcz9_0
                       try clear hfz22_0
                       try clear hfz4_0
                       try clear hfz9_0
                       try clear hx112_0
                       try clear p112
                       try clear q112
                       obtain ⟨x6_4, x9_4, rfl, HA, HK4, HO_5, HO_6, HO_109000, BK101, BK108, HB⟩ := hrel
                       have hl6_4 := (Kd.R_reads' HO_6.out).1
                       rw [hl6_4] at HO_6
                       (try simp only [hl6_4])
                       (try simp only [hl6_4] at BK101)
                       (try simp only [hl6_4] at BK108)
                       (try simp only [hl6_4] at HO_5)
                       (try simp only [hl6_4] at HO_109000)
                       cases gk with
                       | zero => exact absurd HA.out (by simp [spec_l03Turns.l3])
                       | succ k4 =>
                         have H := HA.out
                         clear HA
                         simp only [spec_l03Turns.l3] at H
                         by_cases c35 : x9_4 < (x6_4.length : Int)
                         · rw [if_pos c35] at H
                           have c35b0 : decide (x9_4 < (x6_4.length : Int)) = true := decide_eq_true c35
                           clear c35
                           by_cases c36 : 0 ≤ x8_2
                           · rw [if_pos c36] at H
                             have c36b0 : decide (0 ≤ x8_2) = true := decide_eq_true c36
                             clear c36
                             by_cases c37 : x8_2 < (t105.length : Int)
                             · rw [if_pos c37] at H
                               have c37b0 : decide (x8_2 < (t105.length : Int)) = true := decide_eq_true c37
                               clear c37
                               by_cases c38 : 0 ≤ x9_4
                               · rw [if_pos c38] at H
                                 have c38b0 : decide (0 ≤ x9_4) = true := decide_eq_true c38
                                 clear c38
                                 obtain ⟨y118, hy118⟩ : ∃ y_ : List Int, y_ = (x6_4.set (x9_4 : Int).toNat (rd t105 x8_2)) := ⟨_, rfl⟩
                                 replace H : (if x8_2 < (t102.length : Int) then (spec_l03Turns.l3 k4 t105 y118 x8_2 (wrap64 (x9_4 + (rd t102 x8_2))) t102) else (none)) = some (r1, r2) := zH hy118
                                 have Ny118 := Aside0.mk hy118
                                 clear hy118
                                 by_cases c40 : x8_2 < (t102.length : Int)
                                 · rw [if_pos c40] at H
                                   have c40b0 : decide (x8_2 < (t102.length : Int)) = true := decide_eq_true c40
                                   clear c40
                                   have H' := Aside0.mk H
                                   clear H
                                   have p117 : 0 ≤ (x8_2 : Int) := zD
                                   have q117 : x8_2 < (t105.length : Int) := zD
                                   obtain ⟨ad117, e117, hx117_0⟩ := Kd.at_int (Kd.R_reads' HO_5.out).2.2 x8_2 p117 q117
                                   cases e117
                                   replace p117 := eq_true p117
                                   replace q117 := eq_true q117
                                   have p39 : 0 ≤ (x9_4 : Int) := zD
                                   have q39 : (x9_4 : Int) < ((x6_4.length : Int) : Int) := zD
                                   obtain ⟨go39, co39, eo39, gb39, gl39, cl39, HG39⟩ := Kd.R_form HO_6.out (by omega)
                                   (first | cases eo39 | (injection eo39 with ea_ en_ ec_; (first | subst ea_ | (injection ea_ with ea_; subst ea_)); subst ec_; clear en_))
                                   have GB39 := Aside0.mk gb39
                                   have GG39 := Aside0.mk HG39
                                   clear gb39 gl39 HG39
                                   obtain ⟨hx39_0, hf39_0⟩ := Kd.R_celln 0 HO_6.out (x9_4 : Int) p39 q39
                                   replace p39 := eq_true p39
                                   replace q39 := eq_true q39
                                   have HP41 := Kd.R_putg HO_6.out (x9_4 : Int) (rd t105 x8_2)
                                   go_wp2_with (first | ((with_reducible refine gate_store (t := 2) (p := 70) rfl ?_); refine store_event (t := 2) (p := 70) (v := ?vo_w42) (w1 := (wr.setCell ⟨go39, (x9_4 : Int).toNat, none⟩ (.int .i64 (rd t105 x8_2)))) ?hg ?ho ?hn ?hr ?_; (case ho => rfl); (case hg => rfl); (case hn => rfl); (case hr => first | (go_simp; done) | (go_simp; rfl)); intro w42 hw; have hg : wr.grownBy w42 (some go39) := (by rw [hw]; exact HP41.2); have hp_ : Kd.R (Kd.int .i64) 2 w42 w.heap.size (fun k_ => some k_ ≠ (.slice (some ad117) t105.length co23 : Value).ownBlock ∧ some k_ ≠ (.slice (some ad112) t102.length co7 : Value).ownBlock) (.slice (some ⟨go39, 0, none⟩) x6_4.length co34) y118 := (by rw [hw, Ny118.out]; exact HP41.1); clear HP41; have n_ := y6 (Kd.R_after (v := (.slice (some ⟨go39, 0, none⟩) x6_4.length co34)) (v1 := (.slice (some ⟨go39, 0, none⟩) x6_4.length co34)) (ok := (fun k_ => some k_ ≠ (.slice (some ad112) t102.length co7 : Value).ownBlock)) (by refine zR ?_; exact Kd.R_mono HO_5.out (fun _ hk => ⟨hk.2, hk.1⟩)) hg (.inl rfl)) (hp_) (Kd.R_after (v := (.slice (some ⟨go39, 0, none⟩) x6_4.length co34)) (v1 := (.slice (some ⟨go39, 0, none⟩) x6_4.length co34)) (ok := (fun k_ => some k_ ≠ (.slice (some ad117) t105.length co23 : Value).ownBlock)) (zR HO_109000.out) hg (.inl rfl)) (blk_grown (g := gb101) (o := .cells #[.slice A0_0 l0_0.length c0_0] 26 (0, 0)) (zG BK101.out) hg (Kd.R_ne HO_6.out BK101.out (by decide))) (blk_grown (g := gb108) (o := .cells #[.slice (some ad112) t102.length co7] 26 (0, 0)) (zG BK108.out) hg (Kd.R_ne HO_6.out BK108.out (by decide))) ((by rw [hw]; exact below_set (HB.out) GB39.out : Below w.heap.size w w42)); clear HO_5 HO_6 HO_109000 BK101 BK108 HB; obtain ⟨HO_5, HO_6, HO_109000, BK101, BK108, HB⟩ := n_; clear hg hw hp_; have hnb43 := NB108_101.out; have hnc43 := NB101_108.out; have hcz44_0 := zc BK108.out; have hfz44_0 := blk_frozen BK108.out 0; have p119 : 0 ≤ (x8_2 : Int) := zD; have q119 : x8_2 < (t102.length : Int) := zD; obtain ⟨ad119, e119, hx119_0⟩ := Kd.at_int (Kd.R_reads' HO_109000.out).2.2 x8_2 p119 q119; obtain rfl : ad112 = ad119 := (by injection e119); replace p119 := eq_true p119; replace q119 := eq_true q119))
                                   (try simp only [← hl6_4])
                                   go_roundg k4
                                   case measure => have := HK1.out; have := HK2.out; have := HJ24.out; have := HK4.out; omega
                                   case rel => exact ⟨(y118), (wrap64 (x9_4 + (rd t102 x8_2))), zF, H', ⟨by have := HK1.out; have := HK2.out; have := HJ24.out; have := HK4.out; omega⟩, ⟨by (try simp only [hl6_4]); refine zR ?_; exact Kd.R_mono HO_5.out (fun _ hk => ⟨hk.2, hk.1⟩)⟩, ⟨by (try simp only [hl6_4]); refine zR ?_; exact HO_6.out⟩, ⟨by (try simp only [hl6_4]); refine zR ?_; exact HO_109000.out⟩, ⟨by (try simp only [hl6_4]); refine zG ?_; exact BK101.out⟩, ⟨by (try simp only [hl6_4]); refine zG ?_; exact BK108.out⟩, ⟨zB⟩⟩
                                 · rw [if_neg c40] at H
                                   exact absurd H (by simp)
                               · rw [if_neg c38] at H
                                 exact absurd H (by simp)
                             · rw [if_neg c37] at H
                               exact absurd H (by simp)
                           · rw [if_neg c36] at H
                             exact absurd H (by simp)
                         · rw [if_neg c35] at H
                           have c35b0 : decide (x9_4 < (x6_4.length : Int)) = false := decide_eq_false c35
                           clear c35
                           have H' := Aside0.mk H
                           clear H
                           go_wp2
                           (try simp only [← hl6_4])
                           go_roundg k4
                           case measure => have := HK1.out; have := HK2.out; have := HJ24.out; have := HK4.out; omega
                           case rel => exact ⟨(x6_4), (wrap64 (x8_2 + 1)), zF, H', ⟨by have := HK1.out; have := HK2.out; have := HJ24.out; have := HK4.out; omega⟩, ⟨by (try simp only [hl6_4]); refine zR ?_; exact HO_5.out⟩, ⟨by (try simp only [hl6_4]); refine zR ?_; exact HO_6.out⟩, ⟨by (try simp only [hl6_4]); refine zR ?_; exact HO_109000.out⟩, ⟨by (try simp only [hl6_4]); refine zG ?_; exact BK101.out⟩, ⟨by (try simp only [hl6_4]); refine zG ?_; exact BK108.out⟩, ⟨zB⟩⟩
             · rw [if_neg c24] at H
               have c24b0 : decide (x8_2 < (t105.length : Int)) = false := decide_eq_false c24
               clear c24
               simp only [Option.some.injEq, Prod.mk.injEq] at H
               obtain ⟨rfl, rfl⟩ := H
               go_wp2
               go_ret2
               exact ⟨_, by first | rfl | (simp [errW_none, errW_some] <;> rfl) | (simp only [← hji12]; first | rfl | (simp [errW_none, errW_some] <;> rfl)) | (simp [*, errW_none, errW_some] <;> rfl), by refine zR ?_; exact Kd.R_mono HO_6.out (fun _ hk => trivial), zB⟩
     · rw [if_neg c14] at H
       exact absurd H (by simp)
   · rw [if_neg c13] at H
     exact absurd H (by simp)
end Go.Proofs.Ytgbapmmfhdphmaa.P
end
section
namespace Go.Proofs.Ytgbapmmfhdphmaa.P
open Go.RowKit Go.Proofs.YtgbapmmfhdphmaaW.PrintWords Go.Proofs.YtgbapmmfhdphmaaW.PrintLast Go.Proofs.YtgbapmmfhdphmaaW.PrintMore
attribute [local go_sem] max2_int min2_int max_two min_two max_three min_three max_four min_four   -- for this text's walks alone
set_option linter.unusedVariables false
set_option linter.unusedSimpArgs false
def spec_HarmonicTurns.f (k : Nat) (l0_0 : List Int) : Option (List Int × Int) := (spec_l01Is.f k l0_0).bind fun t102 => (if t102 = true then ((spec_l03Harmonic.f k l0_0).bind fun t103 => (if t103 = true then ((spec_l03Turns.f k l0_0).bind fun bt104 => (if bt104.2 = true then (some (bt104.1, 0)) else (some (([] : List Int), 4)))) else (some (([] : List Int), 5)))) else (some (([] : List Int), 1)))
theorem spec_HarmonicTurns.mono : ∀ a0 k, LeO (spec_HarmonicTurns.f k a0) (spec_HarmonicTurns.f (k + 1) a0) := by
  intro a0 k
  unfold spec_HarmonicTurns.f
  repeat' first | (with_reducible exact spec_l01Is.mono _ _) | (with_reducible exact spec_l03Harmonic.mono _ _) | (with_reducible exact spec_l03Turns.mono _ _) | (with_reducible exact LeO.refl _) | (with_reducible exact LeO.none _) | (with_reducible refine LeO.ite ?_ ?_) | (with_reducible refine LeO.bind ?_ (fun _ => ?_)) | exact spec_l01Is.mono _ _ | exact spec_l03Harmonic.mono _ _ | exact spec_l03Turns.mono _ _ | exact LeO.none _ | refine LeO.ite ?_ ?_ | refine LeO.bind ?_ (fun _ => ?_)
set_option maxHeartbeats 8000000 in
set_option maxRecDepth 100000 in
theorem spec_HarmonicTurns.calls (k : Nat) (A0_0 : Option Addr) (c0_0 : Nat) (l0_0 : List Int) (r1 : List Int) (r2 : Int) (w : World) (hr0_0 : Kd.C (Kd.int .i64) w A0_0 l0_0.length l0_0) (hc0_0 : l0_0.length ≤ c0_0) (h : spec_HarmonicTurns.f k l0_0 = some (r1, r2)) :
    Calls Try.prog 7 #[.agg #[.slice A0_0 l0_0.length c0_0]] w fun e w' => ∃ v0_ : Value, e = .returned (.tuple #[v0_, .int .i64 r2]) ∧ Kd.R (Kd.int .i64) 2 w' w.heap.size (fun _ => True) v0_ r1 ∧ Below w.heap.size w w' := by
 have hu26 := Try.underlying26
 have HR0_0 := Aside0.mk hr0_0
 have HC0_0 := Aside0.mk hc0_0
 clear hr0_0 hc0_0
 have HB := Aside0.mk (Below.refl w.heap.size w)
 have H : ((spec_l01Is.f k l0_0).bind fun t102 => (if t102 = true then ((spec_l03Harmonic.f k l0_0).bind fun t103 => (if t103 = true then ((spec_l03Turns.f k l0_0).bind fun bt104 => (if bt104.2 = true then (some (bt104.1, 0)) else (some (([] : List Int), 4)))) else (some (([] : List Int), 5)))) else (some (([] : List Int), 1)))) = some (r1, r2) := h
 clear h
 replace H := Option.bind_eq_some_iff.mp H
 obtain ⟨t102, A20, H⟩ := H
 replace H : (if t102 = true then ((spec_l03Harmonic.f k l0_0).bind fun t103 => (if t103 = true then ((spec_l03Turns.f k l0_0).bind fun bt104 => (if bt104.2 = true then (some (bt104.1, 0)) else (some (([] : List Int), 4)))) else (some (([] : List Int), 5)))) else (some (([] : List Int), 1))) = some (r1, r2) := H
 have A2 := Aside0.mk A20
 clear A20
 by_cases c3 : t102 = true
 ·
  subst c3
  have H1 : ((spec_l03Harmonic.f k l0_0).bind fun t103 => (if t103 = true then ((spec_l03Turns.f k l0_0).bind fun bt104 => (if bt104.2 = true then (some (bt104.1, 0)) else (some (([] : List Int), 4)))) else (some (([] : List Int), 5)))) = some (r1, r2) := by rw [if_pos rfl] at H; exact H
  clear H
  have H := H1
  clear H1
  replace H := Option.bind_eq_some_iff.mp H
  obtain ⟨t103, A40, H⟩ := H
  replace H : (if t103 = true then ((spec_l03Turns.f k l0_0).bind fun bt104 => (if bt104.2 = true then (some (bt104.1, 0)) else (some (([] : List Int), 4)))) else (some (([] : List Int), 5))) = some (r1, r2) := H
  have A4 := Aside0.mk A40
  clear A40
  by_cases c5 : t103 = true
  ·
   subst c5
   have H1 : ((spec_l03Turns.f k l0_0).bind fun bt104 => (if bt104.2 = true then (some (bt104.1, 0)) else (some (([] : List Int), 4)))) = some (r1, r2) := by rw [if_pos rfl] at H; exact H
   clear H
   have H := H1
   clear H1
   replace H := Option.bind_eq_some_iff.mp H
   obtain ⟨⟨t104, t107⟩, A60, H⟩ := H
   replace H : (if t107 = true then (some (t104, 0)) else (some (([] : List Int), 4))) = some (r1, r2) := H
   have A6 := Aside0.mk A60
   clear A60
   by_cases c7 : t107 = true
   ·
    subst c7
    have H1 : (some (t104, 0)) = some (r1, r2) := by rw [if_pos rfl] at H; exact H
    clear H
    have H := H1
    clear H1
    simp only [Option.some.injEq, Prod.mk.injEq] at H
    obtain ⟨rfl, rfl⟩ := H
    go_enter Try.func7, Try.ntmps7
    go_wp2_with (first | ((with_reducible refine gate_dst (N := 1) rfl ?_); refine box_event zr (N := 1) zr (cs := #[.slice A0_0 l0_0.length c0_0]) (t := 26) zg ?_; intro gb101 hg w8 hbox hb; have n_ := y4 (below_step (zB) hb) (hbox) ((zS hg : w.heap.size ≤ gb101)) ((zS hg : w.heap.size ≤ gb101)); clear HB; obtain ⟨HB, BK101, GW101, GE101⟩ := n_; clear hb hbox hg; have hcz9_0 := zc BK101.out; have hfz9_0 := blk_frozen BK101.out 0) | ((with_reducible refine gate_callee (f := 29) rfl ?_); refine goesL_ (some 8) rfl rfl Try.func29 zk rfl #[.agg #[.slice A0_0 l0_0.length c0_0]] rfl zA ?_; (with_reducible refine (spec_l01Is.calls k _ _ l0_0 true _ ?side1 ?side2 A2.out).mono ?_); (case side1 => exact zC (Kd.C_below HR0_0.out HB.out)); (case side2 => exact HC0_0.out); rintro e w10 ⟨rfl, hb⟩; refine ⟨_, rfl, ?_⟩; have n_ := y2 (zb BK101.out hb) (below_step (zB) hb); clear BK101 HB; obtain ⟨BK101, HB⟩ := n_; (try clear hb); (try clear hb2); (try clear hk); (try clear hi); have hcz11_0 := zc BK101.out; have hfz11_0 := blk_frozen BK101.out 0) | ((with_reducible refine gate_callee (f := 30) rfl ?_); refine goesL_ (some 12) rfl rfl Try.func30 zk rfl #[.agg #[.slice A0_0 l0_0.length c0_0]] rfl zA ?_; (with_reducible refine (spec_l03Harmonic.calls k _ _ l0_0 true _ ?side1 ?side2 A4.out).mono ?_); (case side1 => exact zC (Kd.C_below HR0_0.out HB.out)); (case side2 => exact HC0_0.out); rintro e w12 ⟨rfl, hb⟩; refine ⟨_, rfl, ?_⟩; have n_ := y2 (zb BK101.out hb) (below_step (zB) hb); clear BK101 HB; obtain ⟨BK101, HB⟩ := n_; (try clear hb); (try clear hb2); (try clear hk); (try clear hi); have hcz13_0 := zc BK101.out; have hfz13_0 := blk_frozen BK101.out 0) | ((with_reducible refine gate_callee (f := 31) rfl ?_); refine goesL_ (some 16) rfl rfl Try.func31 zk rfl #[.agg #[.slice A0_0 l0_0.length c0_0]] rfl zA ?_; (with_reducible refine (spec_l03Turns.calls k _ _ l0_0 t104 true _ ?side1 ?side2 A6.out).mono ?_); (case side1 => exact zC (Kd.C_below HR0_0.out HB.out)); (case side2 => exact HC0_0.out); rintro e w14 ⟨v105, rfl, ho0, hb⟩; refine ⟨_, rfl, ?_⟩; have n_ := y3 (Kd.R_lower ho0 (below_size (zB))) (zb BK101.out hb) (below_step (zB) hb); clear BK101 HB; obtain ⟨HO106, BK101, HB⟩ := n_; (try clear hb); (try clear hb2); (try clear hk); (try clear hi); (try clear ho0)))
    go_ret2
    exact ⟨_, zE, zR HO106.out, zB⟩
   replace c7 := Bool.eq_false_iff.mpr c7
   subst c7
   have H1 : (some (([] : List Int), 4)) = some (r1, r2) := by rw [if_neg (show ¬ (false = true) by decide)] at H; exact H
   clear H
   have H := H1
   clear H1
   simp only [Option.some.injEq, Prod.mk.injEq] at H
   obtain ⟨rfl, rfl⟩ := H
   go_enter Try.func7, Try.ntmps7
   go_wp2_with (first | ((with_reducible refine gate_dst (N := 1) rfl ?_); refine box_event zr (N := 1) zr (cs := #[.slice A0_0 l0_0.length c0_0]) (t := 26) zg ?_; intro gb101 hg w15 hbox hb; have n_ := y4 (below_step (zB) hb) (hbox) ((zS hg : w.heap.size ≤ gb101)) ((zS hg : w.heap.size ≤ gb101)); clear HB; obtain ⟨HB, BK101, GW101, GE101⟩ := n_; clear hb hbox hg; have hcz16_0 := zc BK101.out; have hfz16_0 := blk_frozen BK101.out 0) | ((with_reducible refine gate_callee (f := 29) rfl ?_); refine goesL_ (some 8) rfl rfl Try.func29 zk rfl #[.agg #[.slice A0_0 l0_0.length c0_0]] rfl zA ?_; (with_reducible refine (spec_l01Is.calls k _ _ l0_0 true _ ?side1 ?side2 A2.out).mono ?_); (case side1 => exact zC (Kd.C_below HR0_0.out HB.out)); (case side2 => exact HC0_0.out); rintro e w17 ⟨rfl, hb⟩; refine ⟨_, rfl, ?_⟩; have n_ := y2 (zb BK101.out hb) (below_step (zB) hb); clear BK101 HB; obtain ⟨BK101, HB⟩ := n_; (try clear hb); (try clear hb2); (try clear hk); (try clear hi); have hcz18_0 := zc BK101.out; have hfz18_0 := blk_frozen BK101.out 0) | ((with_reducible refine gate_callee (f := 30) rfl ?_); refine goesL_ (some 12) rfl rfl Try.func30 zk rfl #[.agg #[.slice A0_0 l0_0.length c0_0]] rfl zA ?_; (with_reducible refine (spec_l03Harmonic.calls k _ _ l0_0 true _ ?side1 ?side2 A4.out).mono ?_); (case side1 => exact zC (Kd.C_below HR0_0.out HB.out)); (case side2 => exact HC0_0.out); rintro e w19 ⟨rfl, hb⟩; refine ⟨_, rfl, ?_⟩; have n_ := y2 (zb BK101.out hb) (below_step (zB) hb); clear BK101 HB; obtain ⟨BK101, HB⟩ := n_; (try clear hb); (try clear hb2); (try clear hk); (try clear hi); have hcz20_0 := zc BK101.out; have hfz20_0 := blk_frozen BK101.out 0) | ((with_reducible refine gate_callee (f := 31) rfl ?_); refine goesL_ (some 16) rfl rfl Try.func31 zk rfl #[.agg #[.slice A0_0 l0_0.length c0_0]] rfl zA ?_; (with_reducible refine (spec_l03Turns.calls k _ _ l0_0 t104 false _ ?side1 ?side2 A6.out).mono ?_); (case side1 => exact zC (Kd.C_below HR0_0.out HB.out)); (case side2 => exact HC0_0.out); rintro e w21 ⟨v105, rfl, ho0, hb⟩; refine ⟨_, rfl, ?_⟩; have n_ := y3 (Kd.R_lower ho0 (below_size (zB))) (zb BK101.out hb) (below_step (zB) hb); clear BK101 HB; obtain ⟨HO106, BK101, HB⟩ := n_; (try clear hb); (try clear hb2); (try clear hk); (try clear hi); (try clear ho0)))
   go_ret2
   exact ⟨_, zE, zN, zB⟩
  replace c5 := Bool.eq_false_iff.mpr c5
  subst c5
  have H1 : (some (([] : List Int), 5)) = some (r1, r2) := by rw [if_neg (show ¬ (false = true) by decide)] at H; exact H
  clear H
  have H := H1
  clear H1
  simp only [Option.some.injEq, Prod.mk.injEq] at H
  obtain ⟨rfl, rfl⟩ := H
  go_enter Try.func7, Try.ntmps7
  go_wp2_with (first | ((with_reducible refine gate_dst (N := 1) rfl ?_); refine box_event zr (N := 1) zr (cs := #[.slice A0_0 l0_0.length c0_0]) (t := 26) zg ?_; intro gb101 hg w22 hbox hb; have n_ := y4 (below_step (zB) hb) (hbox) ((zS hg : w.heap.size ≤ gb101)) ((zS hg : w.heap.size ≤ gb101)); clear HB; obtain ⟨HB, BK101, GW101, GE101⟩ := n_; clear hb hbox hg; have hcz23_0 := zc BK101.out; have hfz23_0 := blk_frozen BK101.out 0) | ((with_reducible refine gate_callee (f := 29) rfl ?_); refine goesL_ (some 8) rfl rfl Try.func29 zk rfl #[.agg #[.slice A0_0 l0_0.length c0_0]] rfl zA ?_; (with_reducible refine (spec_l01Is.calls k _ _ l0_0 true _ ?side1 ?side2 A2.out).mono ?_); (case side1 => exact zC (Kd.C_below HR0_0.out HB.out)); (case side2 => exact HC0_0.out); rintro e w24 ⟨rfl, hb⟩; refine ⟨_, rfl, ?_⟩; have n_ := y2 (zb BK101.out hb) (below_step (zB) hb); clear BK101 HB; obtain ⟨BK101, HB⟩ := n_; (try clear hb); (try clear hb2); (try clear hk); (try clear hi); have hcz25_0 := zc BK101.out; have hfz25_0 := blk_frozen BK101.out 0) | ((with_reducible refine gate_callee (f := 30) rfl ?_); refine goesL_ (some 12) rfl rfl Try.func30 zk rfl #[.agg #[.slice A0_0 l0_0.length c0_0]] rfl zA ?_; (with_reducible refine (spec_l03Harmonic.calls k _ _ l0_0 false _ ?side1 ?side2 A4.out).mono ?_); (case side1 => exact zC (Kd.C_below HR0_0.out HB.out)); (case side2 => exact HC0_0.out); rintro e w26 ⟨rfl, hb⟩; refine ⟨_, rfl, ?_⟩; have n_ := y2 (zb BK101.out hb) (below_step (zB) hb); clear BK101 HB; obtain ⟨BK101, HB⟩ := n_; (try clear hb); (try clear hb2); (try clear hk); (try clear hi)))
  go_ret2
  exact ⟨_, zE, zN, zB⟩
 replace c3 := Bool.eq_false_iff.mpr c3
 subst c3
 have H1 : (some (([] : List Int), 1)) = some (r1, r2) := by rw [if_neg (show ¬ (false = true) by decide)] at H; exact H
 clear H
 have H := H1
 clear H1
 simp only [Option.some.injEq, Prod.mk.injEq] at H
 obtain ⟨rfl, rfl⟩ := H
 go_enter Try.func7, Try.ntmps7
 go_wp2_with (first | ((with_reducible refine gate_dst (N := 1) rfl ?_); refine box_event zr (N := 1) zr (cs := #[.slice A0_0 l0_0.length c0_0]) (t := 26) zg ?_; intro gb101 hg w27 hbox hb; have n_ := y4 (below_step (zB) hb) (hbox) ((zS hg : w.heap.size ≤ gb101)) ((zS hg : w.heap.size ≤ gb101)); clear HB; obtain ⟨HB, BK101, GW101, GE101⟩ := n_; clear hb hbox hg; have hcz28_0 := zc BK101.out; have hfz28_0 := blk_frozen BK101.out 0) | ((with_reducible refine gate_callee (f := 29) rfl ?_); refine goesL_ (some 8) rfl rfl Try.func29 zk rfl #[.agg #[.slice A0_0 l0_0.length c0_0]] rfl zA ?_; (with_reducible refine (spec_l01Is.calls k _ _ l0_0 false _ ?side1 ?side2 A2.out).mono ?_); (case side1 => exact zC (Kd.C_below HR0_0.out HB.out)); (case side2 => exact HC0_0.out); rintro e w29 ⟨rfl, hb⟩; refine ⟨_, rfl, ?_⟩; have n_ := y2 (zb BK101.out hb) (below_step (zB) hb); clear BK101 HB; obtain ⟨BK101, HB⟩ := n_; (try clear hb); (try clear hb2); (try clear hk); (try clear hi)))
 go_ret2
 exact ⟨_, zE, zN, zB⟩
end Go.Proofs.Ytgbapmmfhdphmaa.P
end
section
namespace Go.Proofs.Ytgbapmmfhdphmaa.P
open Go.RowKit Go.Proofs.YtgbapmmfhdphmaaW.PrintWords Go.Proofs.YtgbapmmfhdphmaaW.PrintLast Go.Proofs.YtgbapmmfhdphmaaW.PrintMore
attribute [local go_sem] max2_int min2_int max_two min_two max_three min_three max_four min_four   -- for this text's walks alone
set_option linter.unusedVariables false
set_option linter.unusedSimpArgs false
def impl_AreHarmonic.f (l0_0 : List Int) : Option (Bool × Int) := (impl_tasksCode.f l0_0 true).bind fun t102 => (if t102 = 0 then ((impl_Tasks_isHarmonic.f l0_0).bind fun t103 => (some (t103, 0))) else (some (false, t102)))
set_option maxHeartbeats 8000000 in
set_option maxRecDepth 100000 in
theorem impl_AreHarmonic.calls (A0_0 : Option Addr) (c0_0 : Nat) (l0_0 : List Int) (r1 : Bool) (r2 : Int) (w : World) (hr0_0 : Kd.C (Kd.int .i64) w A0_0 l0_0.length l0_0) (hc0_0 : l0_0.length ≤ c0_0) (h : impl_AreHarmonic.f l0_0 = some (r1, r2)) :
    Calls Try.prog 8 #[.agg #[.slice A0_0 l0_0.length c0_0]] w fun e w' => e = .returned (.tuple #[.bool r1, .int .i64 r2]) ∧ Below w.heap.size w w' := by
 have hu26 := Try.underlying26
 have HR0_0 := Aside0.mk hr0_0
 have HC0_0 := Aside0.mk hc0_0
 clear hr0_0 hc0_0
 have HB := Aside0.mk (Below.refl w.heap.size w)
 have H : ((impl_tasksCode.f l0_0 true).bind fun t102 => (if t102 = 0 then ((impl_Tasks_isHarmonic.f l0_0).bind fun t103 => (some (t103, 0))) else (some (false, t102)))) = some (r1, r2) := h
 clear h
 replace H := Option.bind_eq_some_iff.mp H
 obtain ⟨t102, A20, H⟩ := H
 replace H : (if t102 = 0 then ((impl_Tasks_isHarmonic.f l0_0).bind fun t103 => (some (t103, 0))) else (some (false, t102))) = some (r1, r2) := H
 have A2 := Aside0.mk A20
 clear A20
 by_cases c3 : t102 = 0
 ·
  rw [if_pos c3] at H
  have c3b0 : (t102 == 0) = true := beq_iff_eq.mpr c3
  have c3b1 : (t102 != 0) = false := bne_eq_false_iff_eq.mpr c3
  clear c3
  replace H := Option.bind_eq_some_iff.mp H
  obtain ⟨t103, A40, H⟩ := H
  replace H : (some (t103, 0)) = some (r1, r2) := H
  have A4 := Aside0.mk A40
  clear A40
  simp only [Option.some.injEq, Prod.mk.injEq] at H
  obtain ⟨rfl, rfl⟩ := H
  go_enter Try.func8, Try.ntmps8
  go_wp2_with (first | ((with_reducible refine gate_dst (N := 1) rfl ?_); refine box_event zr (N := 1) zr (cs := #[.slice A0_0 l0_0.length c0_0]) (t := 26) zg ?_; intro gb101 hg w5 hbox hb; have n_ := y4 (below_step (zB) hb) (hbox) ((zS hg : w.heap.size ≤ gb101)) ((zS hg : w.heap.size ≤ gb101)); clear HB; obtain ⟨HB, BK101, GW101, GE101⟩ := n_; clear hb hbox hg; have hcz6_0 := zc BK101.out; have hfz6_0 := blk_frozen BK101.out 0) | ((with_reducible refine gate_callee (f := 25) rfl ?_); refine goesL_ (some 6) rfl rfl Try.func25 zk rfl #[.agg #[.slice A0_0 l0_0.length c0_0], .bool true] rfl zA ?_; (with_reducible refine (impl_tasksCode.calls _ _ l0_0 true t102 _ ?side1 ?side2 A2.out).mono ?_); (case side1 => exact zC (Kd.C_below HR0_0.out HB.out)); (case side2 => exact HC0_0.out); rintro e w7 ⟨rfl, hb⟩; refine ⟨_, rfl, ?_⟩; have n_ := y2 (zb BK101.out hb) (below_step (zB) hb); clear BK101 HB; obtain ⟨BK101, HB⟩ := n_; (try clear hb); (try clear hb2); (try clear hk); (try clear hi); have hcz8_0 := zc BK101.out; have hfz8_0 := blk_frozen BK101.out 0) | ((with_reducible refine gate_callee (f := 26) rfl ?_); refine goesL_ (some 11) rfl rfl Try.func26 zk rfl #[.agg #[.slice A0_0 l0_0.length c0_0]] rfl zA ?_; (with_reducible refine (impl_Tasks_isHarmonic.calls _ _ l0_0 t103 _ ?side1 ?side2 A4.out).mono ?_); (case side1 => exact zC (Kd.C_below HR0_0.out HB.out)); (case side2 => exact HC0_0.out); rintro e w9 ⟨rfl, hb⟩; refine ⟨_, rfl, ?_⟩; have n_ := y2 (zb BK101.out hb) (below_step (zB) hb); clear BK101 HB; obtain ⟨BK101, HB⟩ := n_; (try clear hb); (try clear hb2); (try clear hk); (try clear hi)))
  go_ret2
  exact ⟨zE, zB⟩
 rw [if_neg c3] at H
 have c3b0 : (t102 == 0) = false := beq_eq_false_iff_ne.mpr c3
 have c3b1 : (t102 != 0) = true := bne_iff_ne.mpr c3
 simp only [Option.some.injEq, Prod.mk.injEq] at H
 obtain ⟨rfl, rfl⟩ := H
 go_enter Try.func8, Try.ntmps8
 go_wp2_with (first | ((with_reducible refine gate_dst (N := 1) rfl ?_); refine box_event zr (N := 1) zr (cs := #[.slice A0_0 l0_0.length c0_0]) (t := 26) zg ?_; intro gb101 hg w10 hbox hb; have n_ := y4 (below_step (zB) hb) (hbox) ((zS hg : w.heap.size ≤ gb101)) ((zS hg : w.heap.size ≤ gb101)); clear HB; obtain ⟨HB, BK101, GW101, GE101⟩ := n_; clear hb hbox hg; have hcz11_0 := zc BK101.out; have hfz11_0 := blk_frozen BK101.out 0) | ((with_reducible refine gate_callee (f := 25) rfl ?_); refine goesL_ (some 6) rfl rfl Try.func25 zk rfl #[.agg #[.slice A0_0 l0_0.length c0_0], .bool true] rfl zA ?_; (with_reducible refine (impl_tasksCode.calls _ _ l0_0 true t102 _ ?side1 ?side2 A2.out).mono ?_); (case side1 => exact zC (Kd.C_below HR0_0.out HB.out)); (case side2 => exact HC0_0.out); rintro e w12 ⟨rfl, hb⟩; refine ⟨_, rfl, ?_⟩; have n_ := y2 (zb BK101.out hb) (below_step (zB) hb); clear BK101 HB; obtain ⟨BK101, HB⟩ := n_; (try clear hb); (try clear hb2); (try clear hk); (try clear hi)))
 go_ret2
 exact ⟨zE, zB⟩
end Go.Proofs.Ytgbapmmfhdphmaa.P
end
section
namespace Go.Proofs.Ytgbapmmfhdphmaa.P
open Go.RowKit Go.Proofs.YtgbapmmfhdphmaaW.PrintWords Go.Proofs.YtgbapmmfhdphmaaW.PrintLast Go.Proofs.YtgbapmmfhdphmaaW.PrintMore
attribute [local go_sem] max2_int min2_int max_two min_two max_three min_three max_four min_four   -- for this text's walks alone
set_option linter.unusedVariables false
set_option linter.unusedSimpArgs false
def spec_AreHarmonic.f (k : Nat) (l0_0 : List Int) : Option (Bool × Int) := (spec_l01Is.f k l0_0).bind fun t102 => (if t102 = true then ((spec_l03Harmonic.f k l0_0).bind fun t103 => (some (t103, 0))) else (some (false, 1)))
theorem spec_AreHarmonic.mono : ∀ a0 k, LeO (spec_AreHarmonic.f k a0) (spec_AreHarmonic.f (k + 1) a0) := by
  intro a0 k
  unfold spec_AreHarmonic.f
  repeat' first | (with_reducible exact spec_l01Is.mono _ _) | (with_reducible exact spec_l03Harmonic.mono _ _) | (with_reducible exact LeO.refl _) | (with_reducible exact LeO.none _) | (with_reducible refine LeO.ite ?_ ?_) | (with_reducible refine LeO.bind ?_ (fun _ => ?_)) | exact spec_l01Is.mono _ _ | exact spec_l03Harmonic.mono _ _ | exact LeO.none _ | refine LeO.ite ?_ ?_ | refine LeO.bind ?_ (fun _ => ?_)
set_option maxHeartbeats 8000000 in
set_option maxRecDepth 100000 in
theorem spec_AreHarmonic.calls (k : Nat) (A0_0 : Option Addr) (c0_0 : Nat) (l0_0 : List Int) (r1 : Bool) (r2 : Int) (w : World) (hr0_0 : Kd.C (Kd.int .i64) w A0_0 l0_0.length l0_0) (hc0_0 : l0_0.length ≤ c0_0) (h : spec_AreHarmonic.f k l0_0 = some (r1, r2)) :
    Calls Try.prog 9 #[.agg #[.slice A0_0 l0_0.length c0_0]] w fun e w' => e = .returned (.tuple #[.bool r1, .int .i64 r2]) ∧ Below w.heap.size w w' := by
 have hu26 := Try.underlying26
 have HR0_0 := Aside0.mk hr0_0
 have HC0_0 := Aside0.mk hc0_0
 clear hr0_0 hc0_0
 have HB := Aside0.mk (Below.refl w.heap.size w)
 have H : ((spec_l01Is.f k l0_0).bind fun t102 => (if t102 = true then ((spec_l03Harmonic.f k l0_0).bind fun t103 => (some (t103, 0))) else (some (false, 1)))) = some (r1, r2) := h
 clear h
 replace H := Option.bind_eq_some_iff.mp H
 obtain ⟨t102, A20, H⟩ := H
 replace H : (if t102 = true then ((spec_l03Harmonic.f k l0_0).bind fun t103 => (some (t103, 0))) else (some (false, 1))) = some (r1, r2) := H
 have A2 := Aside0.mk A20
 clear A20
 by_cases c3 : t102 = true
 ·
  subst c3
  have H1 : ((spec_l03Harmonic.f k l0_0).bind fun t103 => (some (t103, 0))) = some (r1, r2) := by rw [if_pos rfl] at H; exact H
  clear H
  have H := H1
  clear H1
  replace H := Option.bind_eq_some_iff.mp H
  obtain ⟨t103, A40, H⟩ := H
  replace H : (some (t103, 0)) = some (r1, r2) := H
  have A4 := Aside0.mk A40
  clear A40
  simp only [Option.some.injEq, Prod.mk.injEq] at H
  obtain ⟨rfl, rfl⟩ := H
  go_enter Try.func9, Try.ntmps9
  go_wp2_with (first | ((with_reducible refine gate_dst (N := 1) rfl ?_); refine box_event zr (N := 1) zr (cs := #[.slice A0_0 l0_0.length c0_0]) (t := 26) zg ?_; intro gb101 hg w5 hbox hb; have n_ := y4 (below_step (zB) hb) (hbox) ((zS hg : w.heap.size ≤ gb101)) ((zS hg : w.heap.size ≤ gb101)); clear HB; obtain ⟨HB, BK101, GW101, GE101⟩ := n_; clear hb hbox hg; have hcz6_0 := zc BK101.out; have hfz6_0 := blk_frozen BK101.out 0) | ((with_reducible refine gate_callee (f := 29) rfl ?_); refine goesL_ (some 5) rfl rfl Try.func29 zk rfl #[.agg #[.slice A0_0 l0_0.length c0_0]] rfl zA ?_; (with_reducible refine (spec_l01Is.calls k _ _ l0_0 true _ ?side1 ?side2 A2.out).mono ?_); (case side1 => exact zC (Kd.C_below HR0_0.out HB.out)); (case side2 => exact HC0_0.out); rintro e w7 ⟨rfl, hb⟩; refine ⟨_, rfl, ?_⟩; have n_ := y2 (zb BK101.out hb) (below_step (zB) hb); clear BK101 HB; obtain ⟨BK101, HB⟩ := n_; (try clear hb); (try clear hb2); (try clear hk); (try clear hi); have hcz8_0 := zc BK101.out; have hfz8_0 := blk_frozen BK101.out 0) | ((with_reducible refine gate_callee (f := 30) rfl ?_); refine goesL_ (some 8) rfl rfl Try.func30 zk rfl #[.agg #[.slice A0_0 l0_0.length c0_0]] rfl zA ?_; (with_reducible refine (spec_l03Harmonic.calls k _ _ l0_0 t103 _ ?side1 ?side2 A4.out).mono ?_); (case side1 => exact zC (Kd.C_below HR0_0.out HB.out)); (case side2 => exact HC0_0.out); rintro e w9 ⟨rfl, hb⟩; refine ⟨_, rfl, ?_⟩; have n_ := y2 (zb BK101.out hb) (below_step (zB) hb); clear BK101 HB; obtain ⟨BK101, HB⟩ := n_; (try clear hb); (try clear hb2); (try clear hk); (try clear hi)))
  go_ret2
  exact ⟨zE, zB⟩
 replace c3 := Bool.eq_false_iff.mpr c3
 subst c3
 have H1 : (some (false, 1)) = some (r1, r2) := by rw [if_neg (show ¬ (false = true) by decide)] at H; exact H
 clear H
 have H := H1
 clear H1
 simp only [Option.some.injEq, Prod.mk.injEq] at H
 obtain ⟨rfl, rfl⟩ := H
 go_enter Try.func9, Try.ntmps9
 go_wp2_with (first | ((with_reducible refine gate_dst (N := 1) rfl ?_); refine box_event zr (N := 1) zr (cs := #[.slice A0_0 l0_0.length c0_0]) (t := 26) zg ?_; intro gb101 hg w10 hbox hb; have n_ := y4 (below_step (zB) hb) (hbox) ((zS hg : w.heap.size ≤ gb101)) ((zS hg : w.heap.size ≤ gb101)); clear HB; obtain ⟨HB, BK101, GW101, GE101⟩ := n_; clear hb hbox hg; have hcz11_0 := zc BK101.out; have hfz11_0 := blk_frozen BK101.out 0) | ((with_reducible refine gate_callee (f := 29) rfl ?_); refine goesL_ (some 5) rfl rfl Try.func29 zk rfl #[.agg #[.slice A0_0 l0_0.length c0_0]] rfl zA ?_; (with_reducible refine (spec_l01Is.calls k _ _ l0_0 false _ ?side1 ?side2 A2.out).mono ?_); (case side1 => exact zC (Kd.C_below HR0_0.out HB.out)); (case side2 => exact HC0_0.out); rintro e w12 ⟨rfl, hb⟩; refine ⟨_, rfl, ?_⟩; have n_ := y2 (zb BK101.out hb) (below_step (zB) hb); clear BK101 HB; obtain ⟨BK101, HB⟩ := n_; (try clear hb); (try clear hb2); (try clear hk); (try clear hi)))
 go_ret2
 exact ⟨zE, zB⟩
end Go.Proofs.Ytgbapmmfhdphmaa.P
end
section
namespace Go.Proofs.Ytgbapmmfhdphmaa.P
open Go.RowKit Go.Proofs.YtgbapmmfhdphmaaW.PrintWords Go.Proofs.YtgbapmmfhdphmaaW.PrintLast Go.Proofs.YtgbapmmfhdphmaaW.PrintMore
attribute [local go_sem] max2_int min2_int max_two min_two max_three min_three max_four min_four   -- for this text's walks alone
set_option linter.unusedVariables false
set_option linter.unusedSimpArgs false
def laws_likeInts.l0 : Nat → List Int → List Int → Int → Option (Bool)
  | 0, _, _, _ => none
  | k + 1, x0, x1, x5 => if x5 < (x0.length : Int) then (if 0 ≤ x5 then (if x5 < (x1.length : Int) then (if (rd x0 x5) = (rd x1 x5) then (laws_likeInts.l0 k x0 x1 (wrap64 (x5 + 1))) else (some false)) else (none)) else (none)) else (some true)
def laws_likeInts.f (k : Nat) (l0 : List Int) (l1 : List Int) : Option (Bool) := if (l0.length : Int) = (l1.length : Int) then (laws_likeInts.l0 k l0 l1 0) else (some false)
theorem laws_likeInts.mono_l : ∀ k, (∀ y0 y1 y2, LeO (laws_likeInts.l0 k y0 y1 y2) (laws_likeInts.l0 (k + 1) y0 y1 y2))
  | 0 => fun _ _ _ r h => by simp [laws_likeInts.l0] at h
  | k + 1 => by
    have ih0 := laws_likeInts.mono_l k
    · intro y0 y1 y2
      unfold laws_likeInts.l0
      repeat' first | (with_reducible exact ih0 _ _ _) | (with_reducible exact LeO.refl _) | (with_reducible exact LeO.none _) | (with_reducible refine LeO.ite ?_ ?_) | (with_reducible refine LeO.bind ?_ (fun _ => ?_)) | exact ih0 _ _ _ | exact LeO.none _ | refine LeO.ite ?_ ?_ | refine LeO.bind ?_ (fun _ => ?_)
theorem laws_likeInts.mono : ∀ a0 a1 k, LeO (laws_likeInts.f k a0 a1) (laws_likeInts.f (k + 1) a0 a1) := by
  intro a0 a1 k
  have ih0 := laws_likeInts.mono_l k
  unfold laws_likeInts.f
  repeat' first | (with_reducible exact ih0 _ _ _) | (with_reducible exact LeO.refl _) | (with_reducible exact LeO.none _) | (with_reducible refine LeO.ite ?_ ?_) | (with_reducible refine LeO.bind ?_ (fun _ => ?_)) | exact ih0 _ _ _ | exact LeO.none _ | refine LeO.ite ?_ ?_ | refine LeO.bind ?_ (fun _ => ?_)
set_option maxHeartbeats 8000000 in
set_option maxRecDepth 100000 in
theorem laws_likeInts.calls (k : Nat) (A0 : Option Addr) (c0 : Nat) (l0 : List Int) (A1 : Option Addr) (c1 : Nat) (l1 : List Int) (r : Bool) (w : World) (hr0 : Kd.C (Kd.int .i64) w A0 l0.length l0) (hc0 : l0.length ≤ c0) (hr1 : Kd.C (Kd.int .i64) w A1 l1.length l1) (hc1 : l1.length ≤ c1) (h : laws_likeInts.f k l0 l1 = some r) :
    Calls Try.prog 10 #[.slice A0 l0.length c0, .slice A1 l1.length c1] w fun e w' => e = .returned (.bool r) ∧ Drawn0 w w' := by
 have HR0 := Aside0.mk hr0
 have HC0 := Aside0.mk hc0
 clear hr0 hc0
 have HR1 := Aside0.mk hr1
 have HC1 := Aside0.mk hc1
 clear hr1 hc1
 have H : (if (l0.length : Int) = (l1.length : Int) then (laws_likeInts.l0 k l0 l1 0) else (some false)) = some r := h
 clear h
 by_cases c3 : (l0.length : Int) = (l1.length : Int)
 ·
  rw [if_pos c3] at H
  have c3b0 : ((l0.length : Int) == (l1.length : Int)) = true := beq_iff_eq.mpr c3
  have c3b1 : ((l0.length : Int) != (l1.length : Int)) = false := bne_eq_false_iff_eq.mpr c3
  have c3b2 : (l0.length == l1.length) = true := by first | simpa using c3 | (simp at c3 ⊢; omega)
  clear c3
  have H' := Aside0.mk H
  clear H
  go_enter Try.func10, Try.ntmps10
  go_wp2
  repeat (go_quiet (fail); try go_wp2)
  go_loopg [5] k (fun kq v5 w' => ∃ (x5_1 : Int), v5 = .int .i64 x5_1 ∧ Aside0 (laws_likeInts.l0 kq l0 l1 x5_1 = some r) ∧ Aside0 (kq ≤ k) ∧ Drawn0 w w')
  case atStart => exact ⟨(0), zF, H', ⟨Nat.le_refl _⟩, by repeat (first | exact Drawn0.refl _ | apply Drawn0.step)⟩
  clear H'
  try clear c3
  try clear c3b0
  try clear c3b1
  try clear c3b2
  obtain ⟨x5_1, rfl, HA, HK1, ⟨m1, rfl⟩⟩ := hrel
  cases gk with
  | zero => exact absurd HA.out (by simp [laws_likeInts.l0])
  | succ k1 =>
    have H := HA.out
    clear HA
    simp only [laws_likeInts.l0] at H
    by_cases c4 : x5_1 < (l0.length : Int)
    · rw [if_pos c4] at H
      have c4b0 : decide (x5_1 < (l0.length : Int)) = true := decide_eq_true c4
      clear c4
      by_cases c5 : 0 ≤ x5_1
      · rw [if_pos c5] at H
        have c5b0 : decide (0 ≤ x5_1) = true := decide_eq_true c5
        clear c5
        by_cases c6 : x5_1 < (l1.length : Int)
        · rw [if_pos c6] at H
          have c6b0 : decide (x5_1 < (l1.length : Int)) = true := decide_eq_true c6
          clear c6
          by_cases c7 : (rd l0 x5_1) = (rd l1 x5_1)
          · rw [if_pos c7] at H
            have c7b0 : ((rd l0 x5_1) == (rd l1 x5_1)) = true := beq_iff_eq.mpr c7
            have c7b1 : ((rd l0 x5_1) != (rd l1 x5_1)) = false := bne_eq_false_iff_eq.mpr c7
            clear c7
            have H' := Aside0.mk H
            clear H
            have p101 : 0 ≤ (x5_1 : Int) := zD
            have q101 : x5_1 < (l0.length : Int) := zD
            obtain ⟨ad101, e101, hx101_0⟩ := Kd.at_int HR0.out x5_1 p101 q101
            cases e101
            replace p101 := eq_true p101
            replace q101 := eq_true q101
            have p102 : 0 ≤ (x5_1 : Int) := zD
            have q102 : x5_1 < (l1.length : Int) := zD
            obtain ⟨ad102, e102, hx102_0⟩ := Kd.at_int HR1.out x5_1 p102 q102
            cases e102
            replace p102 := eq_true p102
            replace q102 := eq_true q102
            go_wp2
            repeat (go_quiet (fail); try go_wp2)
            go_roundg k1
            case measure => have := HK1.out; omega
            case rel => exact ⟨(wrap64 (x5_1 + 1)), zF, H', ⟨by have := HK1.out; omega⟩, by repeat (first | exact Drawn0.refl _ | apply Drawn0.step)⟩
          · rw [if_neg c7] at H
            have c7b0 : ((rd l0 x5_1) == (rd l1 x5_1)) = false := beq_eq_false_iff_ne.mpr c7
            have c7b1 : ((rd l0 x5_1) != (rd l1 x5_1)) = true := bne_iff_ne.mpr c7
            obtain rfl := Option.some.inj H
            have p101 : 0 ≤ (x5_1 : Int) := zD
            have q101 : x5_1 < (l0.length : Int) := zD
            obtain ⟨ad101, e101, hx101_0⟩ := Kd.at_int HR0.out x5_1 p101 q101
            cases e101
            replace p101 := eq_true p101
            replace q101 := eq_true q101
            have p102 : 0 ≤ (x5_1 : Int) := zD
            have q102 : x5_1 < (l1.length : Int) := zD
            obtain ⟨ad102, e102, hx102_0⟩ := Kd.at_int HR1.out x5_1 p102 q102
            cases e102
            replace p102 := eq_true p102
            replace q102 := eq_true q102
            go_wp2
            repeat (go_quiet (fail); try go_wp2)
            go_ret
            exact ⟨by first | rfl | (simp; done) | (simp [*]; done), by repeat (first | exact Drawn0.refl _ | apply Drawn0.step)⟩
        · rw [if_neg c6] at H
          exact absurd H (by simp)
      · rw [if_neg c5] at H
        exact absurd H (by simp)
    · rw [if_neg c4] at H
      have c4b0 : decide (x5_1 < (l0.length : Int)) = false := decide_eq_false c4
      clear c4
      obtain rfl := Option.some.inj H
      go_wp2
      repeat (go_quiet (fail); try go_wp2)
      go_ret
      exact ⟨by first | rfl | (simp; done) | (simp [*]; done), by repeat (first | exact Drawn0.refl _ | apply Drawn0.step)⟩
 rw [if_neg c3] at H
 have c3b0 : ((l0.length : Int) == (l1.length : Int)) = false := beq_eq_false_iff_ne.mpr c3
 have c3b1 : ((l0.length : Int) != (l1.length : Int)) = true := bne_iff_ne.mpr c3
 have c3b2 : (l0.length == l1.length) = false := by first | simpa using c3 | (simp at c3 ⊢; omega)
 obtain rfl := Option.some.inj H
 go_enter Try.func10, Try.ntmps10
 go_wp2
 repeat (go_quiet (fail); try go_wp2)
 go_ret
 exact ⟨by first | rfl | (simp; done) | (simp [*]; done), by repeat (first | exact Drawn0.refl _ | apply Drawn0.step)⟩
end Go.Proofs.Ytgbapmmfhdphmaa.P
end
section
namespace Go.Proofs.Ytgbapmmfhdphmaa.P
open Go.RowKit Go.Proofs.YtgbapmmfhdphmaaW.PrintWords Go.Proofs.YtgbapmmfhdphmaaW.PrintLast Go.Proofs.YtgbapmmfhdphmaaW.PrintMore
attribute [local go_sem] max2_int min2_int max_two min_two max_three min_three max_four min_four   -- for this text's walks alone
set_option linter.unusedVariables false
set_option linter.unusedSimpArgs false
def impl_DensityOf.f (k : Nat) (l0_0 : List Int) : Option (Int × Int × Int) := (impl_tasksCode.f l0_0 true).bind fun t102 => (if t102 = 0 then ((impl_Tasks_density.f k l0_0).bind fun bt103 => (some (bt103.1, bt103.2, 0))) else (some (0, 0, t102)))
theorem impl_DensityOf.mono : ∀ a0 k, LeO (impl_DensityOf.f k a0) (impl_DensityOf.f (k + 1) a0) := by
  intro a0 k
  unfold impl_DensityOf.f
  repeat' first | (with_reducible exact impl_Tasks_density.mono _ _) | (with_reducible exact LeO.refl _) | (with_reducible exact LeO.none _) | (with_reducible refine LeO.ite ?_ ?_) | (with_reducible refine LeO.bind ?_ (fun _ => ?_)) | exact impl_Tasks_density.mono _ _ | exact LeO.none _ | refine LeO.ite ?_ ?_ | refine LeO.bind ?_ (fun _ => ?_)
set_option maxHeartbeats 8000000 in
set_option maxRecDepth 100000 in
theorem impl_DensityOf.calls (k : Nat) (A0_0 : Option Addr) (c0_0 : Nat) (l0_0 : List Int) (r1 : Int) (r2 : Int) (r3 : Int) (w : World) (hr0_0 : Kd.C (Kd.int .i64) w A0_0 l0_0.length l0_0) (hc0_0 : l0_0.length ≤ c0_0) (h : impl_DensityOf.f k l0_0 = some (r1, r2, r3)) :
    Calls Try.prog 11 #[.agg #[.slice A0_0 l0_0.length c0_0]] w fun e w' => e = .returned (.tuple #[.int .i64 r1, .int .i64 r2, .int .i64 r3]) ∧ Below w.heap.size w w' := by
 have hu26 := Try.underlying26
 have HR0_0 := Aside0.mk hr0_0
 have HC0_0 := Aside0.mk hc0_0
 clear hr0_0 hc0_0
 have HB := Aside0.mk (Below.refl w.heap.size w)
 have H : ((impl_tasksCode.f l0_0 true).bind fun t102 => (if t102 = 0 then ((impl_Tasks_density.f k l0_0).bind fun bt103 => (some (bt103.1, bt103.2, 0))) else (some (0, 0, t102)))) = some (r1, r2, r3) := h
 clear h
 replace H := Option.bind_eq_some_iff.mp H
 obtain ⟨t102, A20, H⟩ := H
 replace H : (if t102 = 0 then ((impl_Tasks_density.f k l0_0).bind fun bt103 => (some (bt103.1, bt103.2, 0))) else (some (0, 0, t102))) = some (r1, r2, r3) := H
 have A2 := Aside0.mk A20
 clear A20
 by_cases c3 : t102 = 0
 ·
  rw [if_pos c3] at H
  have c3b0 : (t102 == 0) = true := beq_iff_eq.mpr c3
  have c3b1 : (t102 != 0) = false := bne_eq_false_iff_eq.mpr c3
  clear c3
  replace H := Option.bind_eq_some_iff.mp H
  obtain ⟨⟨t103, t104⟩, A40, H⟩ := H
  replace H : (some (t103, t104, 0)) = some (r1, r2, r3) := H
  have A4 := Aside0.mk A40
  clear A40
  simp only [Option.some.injEq, Prod.mk.injEq] at H
  obtain ⟨rfl, rfl, rfl⟩ := H
  go_enter Try.func11, Try.ntmps11
  go_wp2_with (first | ((with_reducible refine gate_dst (N := 1) rfl ?_); refine box_event zr (N := 1) zr (cs := #[.slice A0_0 l0_0.length c0_0]) (t := 26) zg ?_; intro gb101 hg w5 hbox hb; have n_ := y4 (below_step (zB) hb) (hbox) ((zS hg : w.heap.size ≤ gb101)) ((zS hg : w.heap.size ≤ gb101)); clear HB; obtain ⟨HB, BK101, GW101, GE101⟩ := n_; clear hb hbox hg; have hcz6_0 := zc BK101.out; have hfz6_0 := blk_frozen BK101.out 0) | ((with_reducible refine gate_callee (f := 25) rfl ?_); refine goesL_ (some 9) rfl rfl Try.func25 zk rfl #[.agg #[.slice A0_0 l0_0.length c0_0], .bool true] rfl zA ?_; (with_reducible refine (impl_tasksCode.calls _ _ l0_0 true t102 _ ?side1 ?side2 A2.out).mono ?_); (case side1 => exact zC (Kd.C_below HR0_0.out HB.out)); (case side2 => exact HC0_0.out); rintro e w7 ⟨rfl, hb⟩; refine ⟨_, rfl, ?_⟩; have n_ := y2 (zb BK101.out hb) (below_step (zB) hb); clear BK101 HB; obtain ⟨BK101, HB⟩ := n_; (try clear hb); (try clear hb2); (try clear hk); (try clear hi); have hcz8_0 := zc BK101.out; have hfz8_0 := blk_frozen BK101.out 0) | ((with_reducible refine gate_callee (f := 32) rfl ?_); refine goesL_ (some 15) rfl rfl Try.func32 zk rfl #[.agg #[.slice A0_0 l0_0.length c0_0]] rfl zA ?_; (with_reducible refine (impl_Tasks_density.calls k _ _ l0_0 t103 t104 _ ?side1 ?side2 A4.out).mono ?_); (case side1 => exact zC (Kd.C_below HR0_0.out HB.out)); (case side2 => exact HC0_0.out); rintro e w9 ⟨rfl, hb⟩; refine ⟨_, rfl, ?_⟩; have n_ := y2 (zb BK101.out hb) (below_step (zB) hb); clear BK101 HB; obtain ⟨BK101, HB⟩ := n_; (try clear hb); (try clear hb2); (try clear hk); (try clear hi)))
  go_ret3
  exact ⟨zE, zB⟩
 rw [if_neg c3] at H
 have c3b0 : (t102 == 0) = false := beq_eq_false_iff_ne.mpr c3
 have c3b1 : (t102 != 0) = true := bne_iff_ne.mpr c3
 simp only [Option.some.injEq, Prod.mk.injEq] at H
 obtain ⟨rfl, rfl, rfl⟩ := H
 go_enter Try.func11, Try.ntmps11
 go_wp2_with (first | ((with_reducible refine gate_dst (N := 1) rfl ?_); refine box_event zr (N := 1) zr (cs := #[.slice A0_0 l0_0.length c0_0]) (t := 26) zg ?_; intro gb101 hg w10 hbox hb; have n_ := y4 (below_step (zB) hb) (hbox) ((zS hg : w.heap.size ≤ gb101)) ((zS hg : w.heap.size ≤ gb101)); clear HB; obtain ⟨HB, BK101, GW101, GE101⟩ := n_; clear hb hbox hg; have hcz11_0 := zc BK101.out; have hfz11_0 := blk_frozen BK101.out 0) | ((with_reducible refine gate_callee (f := 25) rfl ?_); refine goesL_ (some 9) rfl rfl Try.func25 zk rfl #[.agg #[.slice A0_0 l0_0.length c0_0], .bool true] rfl zA ?_; (with_reducible refine (impl_tasksCode.calls _ _ l0_0 true t102 _ ?side1 ?side2 A2.out).mono ?_); (case side1 => exact zC (Kd.C_below HR0_0.out HB.out)); (case side2 => exact HC0_0.out); rintro e w12 ⟨rfl, hb⟩; refine ⟨_, rfl, ?_⟩; have n_ := y2 (zb BK101.out hb) (below_step (zB) hb); clear BK101 HB; obtain ⟨BK101, HB⟩ := n_; (try clear hb); (try clear hb2); (try clear hk); (try clear hi)))
 go_ret3
 exact ⟨zE, zB⟩
end Go.Proofs.Ytgbapmmfhdphmaa.P
end
section
namespace Go.Proofs.Ytgbapmmfhdphmaa.P
open Go.RowKit Go.Proofs.YtgbapmmfhdphmaaW.PrintWords Go.Proofs.YtgbapmmfhdphmaaW.PrintLast Go.Proofs.YtgbapmmfhdphmaaW.PrintMore
attribute [local go_sem] max2_int min2_int max_two min_two max_three min_three max_four min_four   -- for this text's walks alone
set_option linter.unusedVariables false
set_option linter.unusedSimpArgs false
def impl_areTurns.f (l0 : List Int) (a1 : Int) : Option Bool := some (decide (1 ≤ (l0.length : Int) ∧ (l0.length : Int) ≤ 120) && l0.all fun i => decide (-1 ≤ i ∧ i ≤ wrap64 (a1 - 1)))
theorem fv_areTurns_1 (x a : Int) (B : Nat) (W : World) (hc : W.cell? ⟨B, 0, none⟩ = some (.int .i64 a)) :
    Calls Try.prog 72 (#[.int .i64 x] ++ #[.pointer (some ⟨B, 0, none⟩)]) W fun e w' => e = .returned (.bool (decide (-1 ≤ x ∧ x ≤ wrap64 (a - 1)))) ∧ Below W.heap.size W w' := by
  have HQ := Aside0.mk (impl_within.calls x (-1) (wrap64 (a - 1)) _ W (within_f x (-1) (wrap64 (a - 1))))
  generalize decide (-1 ≤ x ∧ x ≤ wrap64 (a - 1)) = b at HQ ⊢
  show Calls Try.prog 72 #[.int .i64 x, .pointer (some ⟨B, 0, none⟩)] W _
  go_enter Try.func72, Try.ntmps72
  go_wp2_with (go_at_call 38; refine HQ.out.mono ?_; rintro e w' ⟨rfl, hb1⟩)
  go_ret
  exact ⟨rfl, hb1.below⟩
set_option maxHeartbeats 4000000 in
set_option maxRecDepth 100000 in
theorem impl_areTurns.calls (A0 : Option Addr) (c0 : Nat) (l0 : List Int) (a1 : Int) (r : Bool) (w : World) (hr0 : Kd.C (Kd.int .i64) w A0 l0.length l0) (hc0 : l0.length ≤ c0) (h : impl_areTurns.f l0 a1 = some r) :
    Calls Try.prog 59 #[.slice A0 l0.length c0, .int .i64 a1] w fun e w' => e = .returned (.bool r) ∧ Below w.heap.size w w' := by
  obtain rfl := Option.some.inj h
  clear h
  have e1 : ∀ args w, (callFunc 72 args).run Try.prog w = .ok (.enter 72 args) w := enters_of Try.func72 zk rfl
  have HQ := Aside0.mk (fun (W : World) (hb : Below w.heap.size w W) (hbk : w.heap.size < W.heap.size) (hcell : W.cell? ⟨w.heap.size, 0, none⟩ = some (.int .i64 a1)) => fv_areAll 72 #[.pointer (some ⟨w.heap.size, 0, none⟩)] e1 (fun i => decide (-1 ≤ i ∧ i ≤ wrap64 (a1 - 1))) A0 c0 l0 W (Kd.C_below hr0 hb) hc0
    (fun W' x hb' _ => fv_areTurns_1 x a1 w.heap.size W' ((hb'.cell (p := ⟨w.heap.size, 0, none⟩) hbk).trans hcell)))
  have HL := Aside0.mk (fun (W : World) (hb : Below w.heap.size w W) => impl_length_int64.calls A0 c0 l0 _ W (Kd.C_below hr0 hb) hc0 rfl)
  clear hr0 hc0 e1
  have HB := Aside0.mk (Below.refl w.heap.size w)
  generalize l0.all (fun i => decide (-1 ≤ i ∧ i ≤ wrap64 (a1 - 1))) = b at HQ ⊢
  by_cases h1 : 1 ≤ (l0.length : Int) ∧ (l0.length : Int) ≤ 120
  · have HW := Aside0.mk (fun W => impl_within.calls (l0.length : Int) 1 120 _ W (within_yes h1))
    rw [decide_eq_true h1, Bool.true_and]
    clear h1
    go_enter Try.func59, Try.ntmps59
    go_wp2_with (first
      | (go_at_call 65; refine (HL.out _ (by repeat (first | exact HB.out | apply below_alloc | apply pw_below_drewN | apply below_drew1))).mono ?_; rintro e w' ⟨rfl, ⟨n1, rfl⟩⟩)
      | (go_at_call 38; refine (HW.out _).mono ?_; rintro e w' ⟨rfl, ⟨n2, rfl⟩⟩)
      | (go_at_call 49; refine (HQ.out _ (by repeat (first | exact HB.out | apply below_alloc | apply pw_below_drewN | apply below_drew1)) (by simp) (by simp)).mono ?_; rintro e w' ⟨rfl, hb1⟩))
    go_ret
    exact ⟨rfl, below_step (by repeat (first | exact HB.out | apply below_alloc | apply pw_below_drewN | apply below_drew1)) hb1⟩
  · have HW := Aside0.mk (fun W => impl_within.calls (l0.length : Int) 1 120 _ W (within_not h1))
    rw [decide_eq_false h1, Bool.false_and]
    clear h1
    go_enter Try.func59, Try.ntmps59
    go_wp2_with (first
      | (go_at_call 65; refine (HL.out _ (by repeat (first | exact HB.out | apply below_alloc | apply pw_below_drewN | apply below_drew1))).mono ?_; rintro e w' ⟨rfl, ⟨n1, rfl⟩⟩)
      | (go_at_call 38; refine (HW.out _).mono ?_; rintro e w' ⟨rfl, ⟨n2, rfl⟩⟩))
    go_ret
    exact ⟨rfl, by repeat (first | exact HB.out | apply below_alloc | apply pw_below_drewN | apply below_drew1)⟩
end Go.Proofs.Ytgbapmmfhdphmaa.P
end
section
namespace Go.Proofs.Ytgbapmmfhdphmaa.P
open Go.RowKit Go.Proofs.YtgbapmmfhdphmaaW.PrintWords Go.Proofs.YtgbapmmfhdphmaaW.PrintLast Go.Proofs.YtgbapmmfhdphmaaW.PrintMore
attribute [local go_sem] max2_int min2_int max_two min_two max_three min_three max_four min_four   -- for this text's walks alone
set_option linter.unusedVariables false
set_option linter.unusedSimpArgs false
def impl_turnsCode.f (l0_0 : List Int) (l1 : List Int) : Option (Int) := (impl_Tasks_many.f l0_0).bind fun t102 => ((impl_areTurns.f l1 t102).bind fun t103 => ((impl_tasksCode.f l0_0 t103).bind fun t104 => (some t104)))
set_option maxHeartbeats 8000000 in
set_option maxRecDepth 100000 in
theorem impl_turnsCode.calls (A0_0 : Option Addr) (c0_0 : Nat) (l0_0 : List Int) (A1 : Option Addr) (c1 : Nat) (l1 : List Int) (r : Int) (w : World) (hr0_0 : Kd.C (Kd.int .i64) w A0_0 l0_0.length l0_0) (hc0_0 : l0_0.length ≤ c0_0) (hr1 : Kd.C (Kd.int .i64) w A1 l1.length l1) (hc1 : l1.length ≤ c1) (h : impl_turnsCode.f l0_0 l1 = some r) :
    Calls Try.prog 33 #[.agg #[.slice A0_0 l0_0.length c0_0], .slice A1 l1.length c1] w fun e w' => e = .returned (.int .i64 r) ∧ Below w.heap.size w w' := by
 have hu26 := Try.underlying26
 have HR0_0 := Aside0.mk hr0_0
 have HC0_0 := Aside0.mk hc0_0
 clear hr0_0 hc0_0
 have HR1 := Aside0.mk hr1
 have HC1 := Aside0.mk hc1
 clear hr1 hc1
 have HB := Aside0.mk (Below.refl w.heap.size w)
 have H : ((impl_Tasks_many.f l0_0).bind fun t102 => ((impl_areTurns.f l1 t102).bind fun t103 => ((impl_tasksCode.f l0_0 t103).bind fun t104 => (some t104)))) = some r := h
 clear h
 replace H := Option.bind_eq_some_iff.mp H
 obtain ⟨t102, A30, H⟩ := H
 replace H : ((impl_areTurns.f l1 t102).bind fun t103 => ((impl_tasksCode.f l0_0 t103).bind fun t104 => (some t104))) = some r := H
 have A3 := Aside0.mk A30
 clear A30
 replace H := Option.bind_eq_some_iff.mp H
 obtain ⟨t103, A40, H⟩ := H
 replace H : ((impl_tasksCode.f l0_0 t103).bind fun t104 => (some t104)) = some r := H
 have A4 := Aside0.mk A40
 clear A40
 replace H := Option.bind_eq_some_iff.mp H
 obtain ⟨t104, A50, H⟩ := H
 replace H : (some t104) = some r := H
 have A5 := Aside0.mk A50
 clear A50
 obtain rfl := Option.some.inj H
 go_enter Try.func33, Try.ntmps33
 try go_wp2_with (first | ((with_reducible refine gate_dst (N := 2) rfl ?_); refine box_event zr (N := 2) zr (cs := #[.slice A0_0 l0_0.length c0_0]) (t := 26) zg ?_; intro gb101 hg w6 hbox hb; have n_ := y4 (below_step (zB) hb) (hbox) ((zS hg : w.heap.size ≤ gb101)) ((zS hg : w.heap.size ≤ gb101)); clear HB; obtain ⟨HB, BK101, GW101, GE101⟩ := n_; clear hb hbox hg))
 have n_ := y2 (blk_drew BK101.out) (below_drew1 HB.out)
 clear BK101 HB
 obtain ⟨BK101, HB⟩ := n_
 refine start_ (n := 7) (S := fun w' => w'.cell? ⟨gb101, 0, none⟩ = some (.slice A0_0 l0_0.length c0_0)) (ds := []) #[false,false,false,false,false,false,false] zk rfl rfl ((blk_cell BK101.out 0).trans rfl) (fun hHeld => ?_)
 generalize w6.drew = w7 at BK101 HB hHeld ⊢
 refine pure_ (i := 1) (N := some 6) (v := ?_) (a' := ?_) #[false,true,false,false,false,false,false] rfl rfl zk (fun _ _ _ h => h) (Or.inl ⟨by rfl, ?_⟩) ?_ ?_
 rotate_left; exact zp; rotate_left; exact zq
 refine take_ (i := 0) (N := some 5) (v := ?_) (a' := ?_) #[true,true,false,false,false,false,false] rfl rfl zk (fun _ _ _ h => h) (Or.inl ⟨by rfl, ?_⟩) hHeld ?_ ?_
 rotate_left
 ·
  intro w' s0
  go_simp
  with_reducible rfl
 rotate_left
 ·
  simp only [Act.put, List.setIfInBounds_toArray, List.set_cons_zero, List.set_cons_succ, i64_w, i32_w]
  rfl
 refine take_ (i := 2) (N := some 7) (v := ?_) (a' := ?_) #[true,true,true,false,false,false,false] rfl rfl zk (fun _ _ _ h => h) (Or.inl ⟨by rfl, ?_⟩) hHeld ?_ ?_
 rotate_left
 ·
  intro w' s0
  go_simp
  with_reducible rfl
 rotate_left
 ·
  simp only [Act.put, List.setIfInBounds_toArray, List.set_cons_zero, List.set_cons_succ, i64_w, i32_w]
  rfl
 refine one_ (i := 3) (N := some 8) #[true,true,true,true,false,false,false] rfl rfl zk (by decide) (fun K hK => ?_)
 refine goes_ Try.func60 zk rfl #[.agg #[.slice A0_0 l0_0.length c0_0]] (by rfl) rfl rfl zA ?_
 with_reducible refine (impl_Tasks_many.calls _ _ l0_0 t102 _ ?side1 ?side2 A3.out).mono ?_
 (case side1 => exact zC (Kd.C_below HR0_0.out HB.out))
 (case side2 => exact HC0_0.out)
 rintro e w8 ⟨rfl, hb⟩
 refine ⟨_, rfl, ?_⟩
 have n_ := y2 (zb BK101.out hb) (below_step (zB) hb)
 clear BK101 HB
 obtain ⟨BK101, HB⟩ := n_
 (try clear hb)
 (try clear hb2)
 (try clear hk)
 (try clear hi)
 refine hK.out _ _ ((blk_cell BK101.out 0).trans rfl) (fun hHeld => ?_)
 clear hK K
 refine norm_ (a' := ?_) ?_ ?_
 rotate_left
 ·
  show Act.put _ (some 8) _ = _
  simp only [Act.put, List.setIfInBounds_toArray, List.set_cons_zero, List.set_cons_succ, i64_w, i32_w]
  rfl
 refine one_ (i := 4) (N := some 9) #[true,true,true,true,true,false,false] rfl rfl zk (by decide) (fun K hK => ?_)
 refine goes_ Try.func59 zk rfl #[.slice A1 l1.length c1, .int .i64 t102] (by rfl) rfl rfl zA ?_
 with_reducible refine (impl_areTurns.calls _ _ l1 t102 t103 _ ?side1 ?side2 A4.out).mono ?_
 (case side1 => exact zC (Kd.C_below HR1.out HB.out))
 (case side2 => exact HC1.out)
 rintro e w9 ⟨rfl, hb⟩
 refine ⟨_, rfl, ?_⟩
 have n_ := y2 (zb BK101.out hb) (below_step (zB) hb)
 clear BK101 HB
 obtain ⟨BK101, HB⟩ := n_
 (try clear hb)
 (try clear hb2)
 (try clear hk)
 (try clear hi)
 refine hK.out _ _ ((blk_cell BK101.out 0).trans rfl) (fun hHeld => ?_)
 clear hK K
 refine norm_ (a' := ?_) ?_ ?_
 rotate_left
 ·
  show Act.put _ (some 9) _ = _
  simp only [Act.put, List.setIfInBounds_toArray, List.set_cons_zero, List.set_cons_succ, i64_w, i32_w]
  rfl
 refine one_ (i := 5) (N := some 10) #[true,true,true,true,true,true,false] rfl rfl zk (by decide) (fun K hK => ?_)
 refine goes_ Try.func25 zk rfl #[.agg #[.slice A0_0 l0_0.length c0_0], .bool t103] (by rfl) rfl rfl zA ?_
 with_reducible refine (impl_tasksCode.calls _ _ l0_0 t103 t104 _ ?side1 ?side2 A5.out).mono ?_
 (case side1 => exact zC (Kd.C_below HR0_0.out HB.out))
 (case side2 => exact HC0_0.out)
 rintro e w10 ⟨rfl, hb⟩
 refine ⟨_, rfl, ?_⟩
 have n_ := y2 (zb BK101.out hb) (below_step (zB) hb)
 clear BK101 HB
 obtain ⟨BK101, HB⟩ := n_
 (try clear hb)
 (try clear hb2)
 (try clear hk)
 (try clear hi)
 refine hK.out _ _ ((blk_cell BK101.out 0).trans rfl) (fun hHeld => ?_)
 clear hK K
 refine norm_ (a' := ?_) ?_ ?_
 rotate_left
 ·
  show Act.put _ (some 10) _ = _
  simp only [Act.put, List.setIfInBounds_toArray, List.set_cons_zero, List.set_cons_succ, i64_w, i32_w]
  rfl
 refine pure_ (i := 6) (N := some 4) (v := ?_) (a' := ?_) #[true,true,true,true,true,true,true] rfl rfl zk (fun _ _ _ h => h) (Or.inl ⟨by rfl, ?_⟩) ?_ ?_
 rotate_left; exact zp; rotate_left; exact zq
 refine done_ zk ?_
 try go_wp2
 go_ret
 exact ⟨zE, zB⟩
end Go.Proofs.Ytgbapmmfhdphmaa.P
end
section
namespace Go.Proofs.Ytgbapmmfhdphmaa.P
open Go.RowKit Go.Proofs.YtgbapmmfhdphmaaW.PrintWords Go.Proofs.YtgbapmmfhdphmaaW.PrintLast Go.Proofs.YtgbapmmfhdphmaaW.PrintMore
attribute [local go_sem] max2_int min2_int max_two min_two max_three min_three max_four min_four   -- for this text's walks alone
set_option linter.unusedVariables false
set_option linter.unusedSimpArgs false
mutual
def impl_waits.l0 : Nat → List Int → Int → List Int → List Int → Int → Int → Option (List Int)
  | 0, _, _, _, _, _, _ => none
  | k + 1, x0, x1, x5, x11, x12, x13 => if x13 < x12 then (if 0 ≤ x13 then (if x13 < (x11.length : Int) then (if (rd x11 x13) = x1 then (if x5.length < 17592186044416 then (impl_waits.l0 k x0 x1 (x5 ++ [x13]) x11 x12 (wrap64 (x13 + 1))) else (none)) else (impl_waits.l0 k x0 x1 x5 x11 x12 (wrap64 (x13 + 1)))) else (none)) else (none)) else (impl_waits.l1 k x0 x5 ([] : List Int) x5 (x5.length : Int) 0)
def impl_waits.l1 : Nat → List Int → List Int → List Int → List Int → Int → Int → Option (List Int)
  | 0, _, _, _, _, _, _ => none
  | k + 1, x0, x5, x6, x26, x27, x28 => if x28 < x27 then (if 0 ≤ x28 then (if x28 < (x26.length : Int) then (if (wrap64 (x28 + 1)) < (x5.length : Int) then (if 0 ≤ (wrap64 (x28 + 1)) then (if x6.length < 17592186044416 then (impl_waits.l1 k x0 x5 (x6 ++ [wrap64 ((rd x5 (wrap64 (x28 + 1))) - (rd x26 x28))]) x26 x27 (wrap64 (x28 + 1))) else (none)) else (none)) else (if 0 < (x5.length : Int) then ((impl_length_int64.f x0).bind fun t111 => (if x6.length < 17592186044416 then (impl_waits.l1 k x0 x5 (x6 ++ [wrap64 ((wrap64 ((rd x5 0) + t111)) - (rd x26 x28))]) x26 x27 (wrap64 (x28 + 1))) else (none))) else (none))) else (none)) else (none)) else (some x6)
end
def impl_waits.f (k : Nat) (l0 : List Int) (a1 : Int) : Option (List Int) := impl_waits.l0 k l0 a1 ([] : List Int) l0 (l0.length : Int) 0
theorem impl_waits.mono_l : ∀ k, (∀ y0 y1 y2 y3 y4 y5, LeO (impl_waits.l0 k y0 y1 y2 y3 y4 y5) (impl_waits.l0 (k + 1) y0 y1 y2 y3 y4 y5)) ∧ (∀ y0 y1 y2 y3 y4 y5, LeO (impl_waits.l1 k y0 y1 y2 y3 y4 y5) (impl_waits.l1 (k + 1) y0 y1 y2 y3 y4 y5))
  | 0 => ⟨fun _ _ _ _ _ _ r h => by simp [impl_waits.l0] at h, fun _ _ _ _ _ _ r h => by simp [impl_waits.l1] at h⟩
  | k + 1 => by
    obtain ⟨ih0, ih1⟩ := impl_waits.mono_l k
    refine ⟨?_, ?_⟩ <;> intros <;> (first | unfold impl_waits.l0 | unfold impl_waits.l1) <;> repeat' first | (with_reducible exact ih0 _ _ _ _ _ _) | (with_reducible exact ih1 _ _ _ _ _ _) | (with_reducible exact LeO.refl _) | (with_reducible exact LeO.none _) | (with_reducible refine LeO.ite ?_ ?_) | (with_reducible refine LeO.bind ?_ (fun _ => ?_)) | exact ih0 _ _ _ _ _ _ | exact ih1 _ _ _ _ _ _ | exact LeO.none _ | refine LeO.ite ?_ ?_ | refine LeO.bind ?_ (fun _ => ?_)
theorem impl_waits.mono : ∀ a0 a1 k, LeO (impl_waits.f k a0 a1) (impl_waits.f (k + 1) a0 a1) := by
  intro a0 a1 k
  obtain ⟨ih0, ih1⟩ := impl_waits.mono_l k
  unfold impl_waits.f
  repeat' first | (with_reducible exact ih0 _ _ _ _ _ _) | (with_reducible exact ih1 _ _ _ _ _ _) | (with_reducible exact LeO.refl _) | (with_reducible exact LeO.none _) | (with_reducible refine LeO.ite ?_ ?_) | (with_reducible refine LeO.bind ?_ (fun _ => ?_)) | exact ih0 _ _ _ _ _ _ | exact ih1 _ _ _ _ _ _ | exact LeO.none _ | refine LeO.ite ?_ ?_ | refine LeO.bind ?_ (fun _ => ?_)
def impl_waits.T13 : Bool × List (List Nat × List Nat) := (true, [([], []), ([], []), ([1], [1]), ([2], [2]), ([], []), ([4], [4]), ([3, 5], [3, 5]), ([], []), ([6, 7], [6, 7]), ([8], [8]), ([0, 9, 5], [0, 9]), ([10, 10, 0, 1, 2, 3, 4, 5, 6, 7, 8, 9, 10], [0, 10])])
def impl_waits.B13 : List Nat := [0, 0, 2, 6, 0, 16, 62, 0, 254, 510, 1023, 2047]
theorem impl_waits.tab13 : rtab .any (opsOf Try.f61 13) = impl_waits.T13 := by kernel_rfl
theorem impl_waits.bits13 : waitsOk impl_waits.T13.2 impl_waits.B13 = true := by kernel_rfl
end Go.Proofs.Ytgbapmmfhdphmaa.P
end
