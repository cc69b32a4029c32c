/- The program's TurnsByHeight returns what the reference's returns, for all gardens. -/
import Derived.Test.YtajfblkidneckaaDoorCFnExactTurnsByHeight2
section
namespace Go.Proofs.YtajfblkidneckaaDoor.P
open Go.RowKit Go.Proofs.YtajfblkidneckaaDoorW.PrintWords Go.Proofs.YtajfblkidneckaaDoorW.PrintLast Go.Proofs.YtajfblkidneckaaDoorW.PrintMore
attribute [local go_sem] max2_int min2_int max_two min_two max_three min_three max_four min_four   -- for this text's walks alone
set_option linter.unusedVariables false
set_option linter.unusedSimpArgs false
set_option maxHeartbeats 8000000 in
set_option maxRecDepth 100000 in
theorem spec_l06Is.calls (k : Nat) (A0_0 : Option Addr) (c0_0 : Nat) (l0_0 : List Int) (r : Bool) (w : World) (hr0_0 : Kd.C (Kd.int .i64) w A0_0 l0_0.length l0_0) (hc0_0 : l0_0.length ≤ c0_0) (h : spec_l06Is.f k l0_0 = some r) :
    Calls Tryd.prog 17 #[.agg #[.slice A0_0 l0_0.length c0_0]] w fun e w' => e = .returned (.bool r) ∧ Below w.heap.size w w' := by
 have hu28 := Tryd.underlying28
 have HR0_0 := Aside0.mk hr0_0
 have HC0_0 := Aside0.mk hc0_0
 clear hr0_0 hc0_0
 have HB := Aside0.mk (Below.refl w.heap.size w)
 have H : (spec_l06Is.l0 k 0 l0_0) = some r := h
 clear h
 have H' := Aside0.mk H
 clear H
 go_enter Tryd.func17, Tryd.ntmps17
 go_wp2_with (first | ((with_reducible refine gate_dst (N := 1) rfl ?_); (try (refine gate_guard (by rfl) ?_; dsimp only)); refine box_event zr (N := 1) zr (cs := #[.slice A0_0 l0_0.length c0_0]) (t := 28) zg ?_; intro gb101 hg w2 hbox hb; have n_ := y4 (below_step (zB) hb) (hbox) ((zS hg : w.heap.size ≤ gb101)) ((zS hg : w.heap.size ≤ gb101)); clear HB; obtain ⟨HB, BK101, GW101, GE101⟩ := n_; clear hb hbox hg))
 go_loopg [3] k (fun kq v3 w' => ∃ (x3_1 : Int), v3 = .int .i64 x3_1 ∧ Aside0 (spec_l06Is.l0 kq x3_1 l0_0 = some r) ∧ Aside0 (kq ≤ k) ∧ Aside0 (w'.heap[gb101]? = some (.cells #[(.slice A0_0 l0_0.length c0_0)] 28 (0, 0))) ∧ Aside0 (Below w.heap.size w w'))
 case atStart => exact ⟨(0), zF, H', ⟨Nat.le_refl _⟩, ⟨zG BK101.out⟩, ⟨zB⟩⟩
 clear H'
 obtain ⟨x3_1, rfl, HA, HK1, BK101, HB⟩ := hrel
 cases gk with
 | zero => exact absurd HA.out (by simp [spec_l06Is.l0])
 | succ k1 =>
   have H := HA.out
   clear HA
   simp only [spec_l06Is.l0] at H
   by_cases c3 : x3_1 < (l0_0.length : Int)
   · rw [if_pos c3] at H
     have c3b0 : decide (x3_1 < (l0_0.length : Int)) = true := decide_eq_true c3
     clear c3
     by_cases c4 : 0 ≤ x3_1
     · rw [if_pos c4] at H
       have c4b0 : decide (0 ≤ x3_1) = true := decide_eq_true c4
       clear c4
       replace H := Option.bind_eq_some_iff.mp H
       obtain ⟨t103, A50, H⟩ := H
       replace H : (if t103 = true then (spec_l06Is.l0 k1 (wrap64 (x3_1 + 1)) l0_0) else (some false)) = some r := H
       have A5 := Aside0.mk A50
       clear A50
       by_cases c6 : t103 = true
       · subst c6
         have H1 : (spec_l06Is.l0 k1 (wrap64 (x3_1 + 1)) l0_0) = some r := by rw [if_pos rfl] at H; exact H
         clear H
         have H := H1
         clear H1
         have H' := Aside0.mk H
         clear H
         have hcz7_0 := zc BK101.out
         have hfz7_0 := blk_frozen BK101.out 0
         have p102 : 0 ≤ (x3_1 : Int) := zD
         have q102 : x3_1 < (l0_0.length : Int) := zD
         obtain ⟨ad102, e102, hx102_0⟩ := Kd.at_int HR0_0.out x3_1 p102 q102
         cases e102
         replace hx102_0 := (HB.out.cell (World.block_lt_of_cell? w _ hx102_0)).trans hx102_0
         replace p102 := eq_true p102
         replace q102 := eq_true q102
         go_wp2_with (first | ((with_reducible refine gate_callee (f := 18) rfl ?_); refine goesL_ (some 16) rfl rfl Tryd.func18 zk rfl #[.int .i64 (rd l0_0 x3_1), .int .i64 1, .int .i64 20] rfl zA ?_; (with_reducible refine (spec_l01In.calls (rd l0_0 x3_1) 1 20 true _ A5.out).mono ?_); rintro e w' ⟨rfl, ⟨nd, rfl⟩⟩; refine ⟨_, rfl, ?_⟩))
         go_roundg k1
         case measure => have := HK1.out; omega
         case rel => exact ⟨(wrap64 (x3_1 + 1)), zF, H', ⟨by have := HK1.out; omega⟩, ⟨zG BK101.out⟩, ⟨zB⟩⟩
       · replace c6 := Bool.eq_false_iff.mpr c6
         subst c6
         have H1 : (some false) = some r := by rw [if_neg (show ¬ (false = true) by decide)] at H; exact H
         clear H
         have H := H1
         clear H1
         obtain rfl := Option.some.inj H
         have hcz8_0 := zc BK101.out
         have hfz8_0 := blk_frozen BK101.out 0
         have p102 : 0 ≤ (x3_1 : Int) := zD
         have q102 : x3_1 < (l0_0.length : Int) := zD
         obtain ⟨ad102, e102, hx102_0⟩ := Kd.at_int HR0_0.out x3_1 p102 q102
         cases e102
         replace hx102_0 := (HB.out.cell (World.block_lt_of_cell? w _ hx102_0)).trans hx102_0
         replace p102 := eq_true p102
         replace q102 := eq_true q102
         go_wp2_with (first | ((with_reducible refine gate_callee (f := 18) rfl ?_); refine goesL_ (some 16) rfl rfl Tryd.func18 zk rfl #[.int .i64 (rd l0_0 x3_1), .int .i64 1, .int .i64 20] rfl zA ?_; (with_reducible refine (spec_l01In.calls (rd l0_0 x3_1) 1 20 false _ A5.out).mono ?_); rintro e w' ⟨rfl, ⟨nd, rfl⟩⟩; refine ⟨_, rfl, ?_⟩))
         go_ret
         exact ⟨zE, zB⟩
     · rw [if_neg c4] at H
       exact absurd H (by simp)
   · rw [if_neg c3] at H
     have c3b0 : decide (x3_1 < (l0_0.length : Int)) = false := decide_eq_false c3
     clear c3
     by_cases c9 : (l0_0.length : Int) > 0
     · rw [if_pos c9] at H
       have c9b0 : decide (0 < (l0_0.length : Int)) = true := decide_eq_true c9
       have c9b1 : decide (0 < l0_0.length) = true := decide_eq_true (by omega)
       clear c9
       obtain rfl := Option.some.inj H
       have hcz10_0 := zc BK101.out
       have hfz10_0 := blk_frozen BK101.out 0
       go_wp2
       go_ret
       exact ⟨zE, zB⟩
     · rw [if_neg c9] at H
       have c9b0 : decide (0 < (l0_0.length : Int)) = false := decide_eq_false c9
       have c9b1 : decide (0 < l0_0.length) = false := decide_eq_false (by omega)
       clear c9
       obtain rfl := Option.some.inj H
       have hcz11_0 := zc BK101.out
       have hfz11_0 := blk_frozen BK101.out 0
       go_wp2
       go_ret
       exact ⟨zE, zB⟩
end Go.Proofs.YtajfblkidneckaaDoor.P
end
section
namespace Go.Proofs.YtajfblkidneckaaDoor.P
open Go.RowKit Go.Proofs.YtajfblkidneckaaDoorW.PrintWords Go.Proofs.YtajfblkidneckaaDoorW.PrintLast Go.Proofs.YtajfblkidneckaaDoorW.PrintMore
attribute [local go_sem] max2_int min2_int max_two min_two max_three min_three max_four min_four   -- for this text's walks alone
set_option linter.unusedVariables false
set_option linter.unusedSimpArgs false
def spec_l06Grow.l0 : Nat → List Int → Int → List Int → Int → List Int → Option (List Int)
  | 0, _, _, _, _, _ => none
  | k + 1, x1, x2, x7, x8, x102000 => if x8 < (x1.length : Int) then (if 0 ≤ x8 then (if x8 < (x102000.length : Int) then (if x7.length < 17592186044416 then (spec_l06Grow.l0 k x1 x2 (x7 ++ [wrap64 ((rd x1 x8) + (wrap64 (x2 * (rd x102000 x8))))]) (wrap64 (x8 + 1)) x102000) else (none)) else (none)) else (none)) else (some x7)
def spec_l06Grow.f (k : Nat) (l0_0 : List Int) (l1 : List Int) (a2 : Int) : Option (List Int) := spec_l06Grow.l0 k l1 a2 (([] : List Int)) 0 l0_0
theorem spec_l06Grow.mono_l : ∀ k, (∀ y0 y1 y2 y3 y4, LeO (spec_l06Grow.l0 k y0 y1 y2 y3 y4) (spec_l06Grow.l0 (k + 1) y0 y1 y2 y3 y4))
  | 0 => fun _ _ _ _ _ r h => by simp [spec_l06Grow.l0] at h
  | k + 1 => by
    have ih0 := spec_l06Grow.mono_l k
    · intro y0 y1 y2 y3 y4
      unfold spec_l06Grow.l0
      repeat' first | (with_reducible exact ih0 _ _ _ _ _) | (with_reducible exact LeO.refl _) | (with_reducible exact LeO.none _) | (with_reducible refine LeO.ite ?_ ?_) | (with_reducible refine LeO.bind ?_ (fun _ => ?_)) | exact ih0 _ _ _ _ _ | exact LeO.none _ | refine LeO.ite ?_ ?_ | refine LeO.bind ?_ (fun _ => ?_)
theorem spec_l06Grow.mono : ∀ a0 a1 a2 k, LeO (spec_l06Grow.f k a0 a1 a2) (spec_l06Grow.f (k + 1) a0 a1 a2) := by
  intro a0 a1 a2 k
  have ih0 := spec_l06Grow.mono_l k
  unfold spec_l06Grow.f
  repeat' first | (with_reducible exact ih0 _ _ _ _ _) | (with_reducible exact LeO.refl _) | (with_reducible exact LeO.none _) | (with_reducible refine LeO.ite ?_ ?_) | (with_reducible refine LeO.bind ?_ (fun _ => ?_)) | exact ih0 _ _ _ _ _ | exact LeO.none _ | refine LeO.ite ?_ ?_ | refine LeO.bind ?_ (fun _ => ?_)
def spec_l06Grow.T5 : Bool × List (List Nat × List Nat) := (true, [([], []), ([], []), ([], []), ([1, 2], [1, 2]), ([3], [3]), ([], []), ([], []), ([6], [6]), ([], []), ([7, 8], [7, 8]), ([9], [9]), ([5, 10], [5, 10]), ([4, 11], [4, 11]), ([12], [12]), ([0, 13], [0, 13]), ([14, 14, 0, 1, 2, 3, 4, 5, 6, 7, 8, 9, 10, 11, 12, 13, 14], [0, 14])])
def spec_l06Grow.B5 : List Nat := [0, 0, 0, 6, 14, 0, 0, 64, 0, 448, 960, 2016, 4094, 8190, 16383, 32767]
theorem spec_l06Grow.tab5 : rtab .any (opsOf Tryd.f26 5) = spec_l06Grow.T5 := by kernel_rfl
theorem spec_l06Grow.bits5 : waitsOk spec_l06Grow.T5.2 spec_l06Grow.B5 = true := by kernel_rfl
set_option maxHeartbeats 8000000 in
set_option maxRecDepth 100000 in
theorem spec_l06Grow.calls (k : Nat) (A0_0 : Option Addr) (c0_0 : Nat) (l0_0 : List Int) (A1 : Option Addr) (c1 : Nat) (l1 : List Int) (a2 : Int) (r : List Int) (w : World) (hr0_0 : Kd.C (Kd.int .i64) w A0_0 l0_0.length l0_0) (hc0_0 : l0_0.length ≤ c0_0) (hr1 : Kd.C (Kd.int .i64) w A1 l1.length l1) (hc1 : l1.length ≤ c1) (h : spec_l06Grow.f k l0_0 l1 a2 = some r) :
    Calls Tryd.prog 26 #[.agg #[.slice A0_0 l0_0.length c0_0], .slice A1 l1.length c1, .int .i64 a2] w fun e w' => ∃ v0_ : Value, e = .returned (v0_) ∧ Kd.R (Kd.int .i64) 2 w' w.heap.size (fun _ => True) v0_ r ∧ Below w.heap.size w w' := by
 have hu28 := Tryd.underlying28
 have HR0_0 := Aside0.mk hr0_0
 have HC0_0 := Aside0.mk hc0_0
 clear hr0_0 hc0_0
 have HR1 := Aside0.mk hr1
 have HC1 := Aside0.mk hc1
 clear hr1 hc1
 have HB := Aside0.mk (Below.refl w.heap.size w)
 have H : (spec_l06Grow.l0 k l1 a2 (([] : List Int)) 0 l0_0) = some r := h
 clear h
 obtain ⟨y102, hy102⟩ : ∃ y_ : List Int, y_ = (([] : List Int)) := ⟨_, rfl⟩
 replace H : (spec_l06Grow.l0 k l1 a2 y102 0 l0_0) = some r := zH hy102
 have Ny102 := Aside0.mk hy102
 clear hy102
 have H' := Aside0.mk H
 clear H
 go_enter Tryd.func26, Tryd.ntmps26
 go_wp2_with (first | ((with_reducible refine gate_dst (N := 3) rfl ?_); refine box_event zr (N := 3) zr (cs := #[.slice A0_0 l0_0.length c0_0]) (t := 28) zg ?_; intro gb101 hg w4 hbox hb; have n_ := y4 (below_step (zB) hb) (hbox) ((zS hg : w.heap.size ≤ gb101)) ((zS hg : w.heap.size ≤ gb101)); clear HB; obtain ⟨HB, BK101, GW101, GE101⟩ := n_; clear hb hbox hg) | ((with_reducible refine gate_dst (N := 9) rfl ?_); refine Kd.R_lit (Kd.int .i64) _ 2 ?hg (N := 9) ?hd (xs := ([] : List Int)) (inner := []) (ok := fun _ => True) (okp := fun _ => True) ?hr ?hp (fun _ hk => hk) trivial (Below.refl _ _) (Nat.le_refl _) (by simp) ?_; (case hd => rfl); (case hg => rfl); (case hr => first | (go_simp; done) | (go_simp; rfl)); (case hp => exact (Reps.none _ _)); intro v103 w5 ho6 hb hg_ hnew_; clear hg_ hnew_; (first | rw [← Ny102.out] at ho6 | (simp only [Int.reduceToNat] at ho6; rw [← Ny102.out] at ho6)); have n_ := y3 (Kd.R_lower ho6 (below_size (zB))) (zb BK101.out hb) (below_step (zB) hb); clear BK101 HB; obtain ⟨HO104, BK101, HB⟩ := n_; clear hb ho6))
 go_loopg [7, 8] k (fun kq v7 v8 w' => ∃ (x7_1 : List Int) (x8_1 : Int), v8 = .int .i64 x8_1 ∧ Aside0 (spec_l06Grow.l0 kq l1 a2 x7_1 x8_1 l0_0 = some r) ∧ Aside0 (kq ≤ k) ∧ Aside0 (Kd.R (Kd.int .i64) 2 w' w.heap.size (fun _ => True) v7 x7_1) ∧ Aside0 (w'.heap[gb101]? = some (.cells #[(.slice A0_0 l0_0.length c0_0)] 28 (0, 0))) ∧ Aside0 (Below w.heap.size w w'))
 case atStart => exact ⟨(y102), (0), zF, H', ⟨Nat.le_refl _⟩, ⟨zR HO104.out⟩, ⟨zG BK101.out⟩, ⟨zB⟩⟩
 clear H'
 obtain ⟨x7_1, x8_1, rfl, HA, HK1, HO_7, BK101, HB⟩ := hrel
 cases gk with
 | zero => exact absurd HA.out (by simp [spec_l06Grow.l0])
 | succ k1 =>
   have H := HA.out
   clear HA
   simp only [spec_l06Grow.l0] at H
   by_cases c7 : x8_1 < (l1.length : Int)
   · rw [if_pos c7] at H
     have c7b0 : decide (x8_1 < (l1.length : Int)) = true := decide_eq_true c7
     clear c7
     by_cases c8 : 0 ≤ x8_1
     · rw [if_pos c8] at H
       have c8b0 : decide (0 ≤ x8_1) = true := decide_eq_true c8
       clear c8
       by_cases c9 : x8_1 < (l0_0.length : Int)
       · rw [if_pos c9] at H
         have c9b0 : decide (x8_1 < (l0_0.length : Int)) = true := decide_eq_true c9
         clear c9
         by_cases c10 : x7_1.length < 17592186044416
         · rw [if_pos c10] at H
           have LMc10 := Aside0.mk c10
           clear c10
           obtain ⟨y107, hy107⟩ : ∃ y_ : List Int, y_ = (x7_1 ++ [wrap64 ((rd l1 x8_1) + (wrap64 (a2 * (rd l0_0 x8_1))))]) := ⟨_, rfl⟩
           replace H : (spec_l06Grow.l0 k1 l1 a2 y107 (wrap64 (x8_1 + 1)) l0_0) = some r := zH hy107
           have Ny107 := Aside0.mk hy107
           clear hy107
           have H' := Aside0.mk H
           clear H
           try go_wp2
           have n_ := y3 (Kd.R_drew HO_7.out) (blk_drew BK101.out) (below_drew1 HB.out)
           clear HO_7 BK101 HB
           obtain ⟨HO_7, BK101, HB⟩ := n_
           have p105 : 0 ≤ (x8_1 : Int) := zD
           have q105 : x8_1 < (l1.length : Int) := zD
           obtain ⟨ad105, e105, hx105_0⟩ := Kd.at_int HR1.out x8_1 p105 q105
           have hw105_0 := hx105_0
           cases e105
           replace hx105_0 := (HB.out.cell (World.block_lt_of_cell? w _ hx105_0)).trans hx105_0
           replace p105 := eq_true p105
           replace q105 := eq_true q105
           have p106 : 0 ≤ (x8_1 : Int) := zD
           have q106 : x8_1 < (l0_0.length : Int) := zD
           obtain ⟨ad106, e106, hx106_0⟩ := Kd.at_int HR0_0.out x8_1 p106 q106
           have hw106_0 := hx106_0
           cases e106
           replace hx106_0 := (HB.out.cell (World.block_lt_of_cell? w _ hx106_0)).trans hx106_0
           replace p106 := eq_true p106
           replace q106 := eq_true q106
           refine start_ (n := 16) (S := fun w' => w'.cell? ⟨gb101, 0, none⟩ = some (.slice (some ad106) l0_0.length c0_0) ∧ w'.cell? (ad105.add (x8_1).toNat) = some (.int .i64 (rd l1 x8_1)) ∧ w'.cell? (ad106.add (x8_1).toNat) = some (.int .i64 (rd l0_0 x8_1))) (ds := []) #[false,false,false,false,false,false,false,false,false,false,false,false,false,false,false,false] zk rfl rfl ⟨(blk_cell BK101.out 0).trans rfl, ((HB.out.cell (World.block_lt_of_cell? w _ hw105_0)).trans hw105_0), ((HB.out.cell (World.block_lt_of_cell? w _ hw106_0)).trans hw106_0)⟩ (fun hHeld => ?_); refine with_tabW spec_l06Grow.tab5 spec_l06Grow.bits5 (fun HT_ HW_ => ?_)
           generalize wr.drew = w11 at HO_7 BK101 HB hx105_0 hx106_0 hHeld ⊢
           refine pure_ (i := 0) (N := some 16) (v := ?_) (a' := ?_) #[true,false,false,false,false,false,false,false,false,false,false,false,false,false,false,false] rfl rfl (any_of HT_.out zk) (fun _ _ _ h => h) (Or.inl ⟨by rfl, ?_⟩) ?_ ?_
           rotate_left; exact zp; rotate_left; exact zq
           refine pure_ (i := 1) (N := some 17) (v := ?_) (a' := ?_) #[true,true,false,false,false,false,false,false,false,false,false,false,false,false,false,false] rfl rfl (any_of HT_.out zk) (fun _ _ _ h => h) (Or.inl ⟨by rfl, ?_⟩) ?_ ?_
           rotate_left; exact zp; rotate_left; exact zq
           refine pure_ (i := 2) (N := some 18) (v := ?_) (a' := ?_) #[true,true,true,false,false,false,false,false,false,false,false,false,false,false,false,false] rfl rfl (any_of HT_.out zk) (fun _ _ _ h => h) (Or.inl ⟨by rfl, ?_⟩) ?_ ?_
           rotate_left; exact zp; rotate_left; exact zq
           refine pure_ (i := 3) (N := some 19) (v := ?_) (a' := ?_) #[true,true,true,true,false,false,false,false,false,false,false,false,false,false,false,false] rfl rfl (any_of HT_.out zk) (fun _ _ _ h => h) (Or.inl ⟨by rfl, ?_⟩) ?_ ?_
           rotate_left; exact zp; rotate_left; exact zq
           refine pure_ (i := 5) (N := some 21) (v := ?_) (a' := ?_) #[true,true,true,true,false,true,false,false,false,false,false,false,false,false,false,false] rfl rfl (any_of HT_.out zk) (fun _ _ _ h => h) (Or.inl ⟨by rfl, ?_⟩) ?_ ?_
           rotate_left; exact zp; rotate_left; exact zq
           refine pure_ (i := 6) (N := some 22) (v := ?_) (a' := ?_) #[true,true,true,true,false,true,true,false,false,false,false,false,false,false,false,false] rfl rfl (any_of HT_.out zk) (fun _ _ _ h => h) (Or.inl ⟨by rfl, ?_⟩) ?_ ?_
           rotate_left; exact zp; rotate_left; exact zq
           refine pure_ (i := 8) (N := some 24) (v := ?_) (a' := ?_) #[true,true,true,true,false,true,true,false,true,false,false,false,false,false,false,false] rfl rfl (any_of HT_.out zk) (fun _ _ _ h => h) (Or.inl ⟨by rfl, ?_⟩) ?_ ?_
           rotate_left; exact zp; rotate_left; exact zq
           refine take_ (i := 4) (N := some 20) (v := ?_) (a' := ?_) #[true,true,true,true,true,true,true,false,true,false,false,false,false,false,false,false] rfl rfl (take_ofW HT_.out HW_.out zk) (fun _ _ _ h => h) (Or.inl ⟨by rfl, ?_⟩) hHeld ?_ ?_
           rotate_left
           · rintro w' ⟨s0, s1, s2⟩
             go_simp
             with_reducible rfl
           rotate_left
           · simp only [Act.put, List.setIfInBounds_toArray, List.set_cons_zero, List.set_cons_succ, i64_w, i32_w]
             rfl
           refine take_ (i := 7) (N := some 23) (v := ?_) (a' := ?_) #[true,true,true,true,true,true,true,true,true,false,false,false,false,false,false,false] rfl rfl (take_ofW HT_.out HW_.out zk) (fun _ _ _ h => h) (Or.inl ⟨by rfl, ?_⟩) hHeld ?_ ?_
           rotate_left
           · rintro w' ⟨s0, s1, s2⟩
             go_simp
             with_reducible rfl
           rotate_left
           · simp only [Act.put, List.setIfInBounds_toArray, List.set_cons_zero, List.set_cons_succ, i64_w, i32_w]
             rfl
           refine pure_ (i := 9) (N := some 25) (v := ?_) (a' := ?_) #[true,true,true,true,true,true,true,true,true,true,false,false,false,false,false,false] rfl rfl (any_of HT_.out zk) (fun _ _ _ h => h) (Or.inl ⟨by rfl, ?_⟩) ?_ ?_
           rotate_left; exact zp; rotate_left; exact zq
           refine take_ (i := 10) (N := some 26) (v := ?_) (a' := ?_) #[true,true,true,true,true,true,true,true,true,true,true,false,false,false,false,false] rfl rfl (take_ofW HT_.out HW_.out zk) (fun _ _ _ h => h) (Or.inl ⟨by rfl, ?_⟩) hHeld ?_ ?_
           rotate_left
           · rintro w' ⟨s0, s1, s2⟩
             go_simp
             with_reducible rfl
           rotate_left
           · simp only [Act.put, List.setIfInBounds_toArray, List.set_cons_zero, List.set_cons_succ, i64_w, i32_w]
             rfl
           refine pure_ (i := 11) (N := some 27) (v := ?_) (a' := ?_) #[true,true,true,true,true,true,true,true,true,true,true,true,false,false,false,false] rfl rfl (any_of HT_.out zk) (fun _ _ _ h => h) (Or.inl ⟨by rfl, ?_⟩) ?_ ?_
           rotate_left; exact zp; rotate_left; exact zq
           refine pure_ (i := 12) (N := some 28) (v := ?_) (a' := ?_) #[true,true,true,true,true,true,true,true,true,true,true,true,true,false,false,false] rfl rfl (any_of HT_.out zk) (fun _ _ _ h => h) (Or.inl ⟨by rfl, ?_⟩) ?_ ?_
           rotate_left; exact zp; rotate_left; exact zq
           refine one_ (i := 13) (N := some 29) #[true,true,true,true,true,true,true,true,true,true,true,true,true,true,false,false] rfl rfl (one_of HT_.out zk) (by decide) (fun K hK => ?_)
           refine value_ (w1 := ?_) (v := ?_) (by rfl) rfl ?_ ?_
           rotate_left 2
           · go_simp
             constructor
             · rfl
             · rfl
           refine hK.out _ _ ⟨(blk_cell (blk_alloc BK101.out _) 0).trans rfl, (World.cell?_alloc_lt _ _ _ (World.block_lt_of_cell? _ _ (((HB.out.cell (World.block_lt_of_cell? w _ hw105_0)).trans hw105_0)))).trans (((HB.out.cell (World.block_lt_of_cell? w _ hw105_0)).trans hw105_0)), (World.cell?_alloc_lt _ _ _ (World.block_lt_of_cell? _ _ (((HB.out.cell (World.block_lt_of_cell? w _ hw106_0)).trans hw106_0)))).trans (((HB.out.cell (World.block_lt_of_cell? w _ hw106_0)).trans hw106_0))⟩ (fun hHeld => ?_)
           clear hK K
           refine norm_ (a' := ?_) ?_ ?_
           rotate_left
           · show Act.put _ (some 29) _ = _
             simp only [Act.put, List.setIfInBounds_toArray, List.set_cons_zero, List.set_cons_succ, i64_w, i32_w]
             rfl
           refine one_ (i := 14) (N := some 30) #[true,true,true,true,true,true,true,true,true,true,true,true,true,true,true,false] rfl rfl (one_of HT_.out zk) (by decide) (fun K hK => ?_)
           refine Kd.R_append_step (Kd.int .i64) (w0 := w) w.heap.size (by rfl) (.tmp 16) (.tmp 29) 22 2 (.int .i64 0) 8 rfl Tryd.underlying22 info2 rfl (by decide) (by omega) u7 x7_1 (wrap64 ((rd l1 x8_1) + (wrap64 (a2 * (rd l0_0 x8_1))))) [.int .i64 (wrap64 ((rd l1 x8_1) + (wrap64 (a2 * (rd l0_0 x8_1)))))] (fun _ => True) (fun _ => False) rfl rfl ?aP (fun _ hk => hk.elim) ?aF ?aO ?aB ?aS ?aL ?_
           (case aP => exact rfl)
           (case aB => exact (zB))
           (case aF => exact (fun _ _ => trivial))
           (case aO => exact (zR HO_7.out))
           (case aS => exact (below_size (zB)))
           (case aL => have := LMc10.out; omega)
           intro v108 w12 ho hb hg hat
           rw [← Ny107.out] at ho
           have n_ := y3 (blk_grown (g := gb101) (o := .cells #[.slice (some ad106) l0_0.length c0_0] 28 (0, 0)) (zG BK101.out) hg (Kd.R_ne HO_7.out BK101.out (by decide))) (hb) (ho)
           clear BK101 HB HO_7
           obtain ⟨BK101, HB, HO109⟩ := n_
           clear ho hb hg hat
           refine hK.out _ _ ⟨(blk_cell BK101.out 0).trans rfl, ((HB.out.cell (World.block_lt_of_cell? w _ hw105_0)).trans hw105_0), ((HB.out.cell (World.block_lt_of_cell? w _ hw106_0)).trans hw106_0)⟩ (fun hHeld => ?_)
           clear hK K
           refine norm_ (a' := ?_) ?_ ?_
           rotate_left
           · show Act.put _ (some 30) _ = _
             simp only [Act.put, List.setIfInBounds_toArray, List.set_cons_zero, List.set_cons_succ, i64_w, i32_w]
             rfl
           refine pure_ (i := 15) (N := some 7) (v := ?_) (a' := ?_) #[true,true,true,true,true,true,true,true,true,true,true,true,true,true,true,true] rfl rfl (any_of HT_.out zk) (fun _ _ _ h => h) (Or.inl ⟨by rfl, ?_⟩) ?_ ?_
           rotate_left; exact zp; rotate_left; exact zq
           refine done_ (done_of HT_.out zk) ?_
           try go_wp2
           go_roundg k1
           case measure => have := HK1.out; omega
           case rel => exact ⟨(y107), (wrap64 (x8_1 + 1)), zF, H', ⟨by have := HK1.out; omega⟩, ⟨zR HO109.out⟩, ⟨zG BK101.out⟩, ⟨zB⟩⟩
         · rw [if_neg c10] at H
           exact absurd H (by simp)
       · rw [if_neg c9] at H
         exact absurd H (by simp)
     · rw [if_neg c8] at H
       exact absurd H (by simp)
   · rw [if_neg c7] at H
     have c7b0 : decide (x8_1 < (l1.length : Int)) = false := decide_eq_false c7
     clear c7
     obtain rfl := Option.some.inj H
     go_wp2
     go_ret
     exact ⟨_, zE, zR HO_7.out, zB⟩
end Go.Proofs.YtajfblkidneckaaDoor.P
end
section
namespace Go.Proofs.YtajfblkidneckaaDoor.P
open Go.RowKit Go.Proofs.YtajfblkidneckaaDoorW.PrintWords Go.Proofs.YtajfblkidneckaaDoorW.PrintLast Go.Proofs.YtajfblkidneckaaDoorW.PrintMore
attribute [local go_sem] max2_int min2_int max_two min_two max_three min_three max_four min_four   -- for this text's walks alone
set_option linter.unusedVariables false
set_option linter.unusedSimpArgs false
def spec_l06Highest.l0 : Nat → List Int → Int → Int → Option (Int)
  | 0, _, _, _ => none
  | k + 1, x0, x3, x4 => if x4 < (x0.length : Int) then (if 0 ≤ x4 then (if 0 ≤ x3 then (if x3 < (x0.length : Int) then (if (rd x0 x4) > (rd x0 x3) then (spec_l06Highest.l0 k x0 x4 (wrap64 (x4 + 1))) else (spec_l06Highest.l0 k x0 x3 (wrap64 (x4 + 1)))) else (none)) else (none)) else (none)) else (some x3)
def spec_l06Highest.f (k : Nat) (l0 : List Int) : Option (Int) := spec_l06Highest.l0 k l0 0 1
theorem spec_l06Highest.mono_l : ∀ k, (∀ y0 y1 y2, LeO (spec_l06Highest.l0 k y0 y1 y2) (spec_l06Highest.l0 (k + 1) y0 y1 y2))
  | 0 => fun _ _ _ r h => by simp [spec_l06Highest.l0] at h
  | k + 1 => by
    have ih0 := spec_l06Highest.mono_l k
    · intro y0 y1 y2
      unfold spec_l06Highest.l0
      repeat' first | (with_reducible exact ih0 _ _ _) | (with_reducible exact LeO.refl _) | (with_reducible exact LeO.none _) | (with_reducible refine LeO.ite ?_ ?_) | (with_reducible refine LeO.bind ?_ (fun _ => ?_)) | exact ih0 _ _ _ | exact LeO.none _ | refine LeO.ite ?_ ?_ | refine LeO.bind ?_ (fun _ => ?_)
theorem spec_l06Highest.mono : ∀ a0 k, LeO (spec_l06Highest.f k a0) (spec_l06Highest.f (k + 1) a0) := by
  intro a0 k
  have ih0 := spec_l06Highest.mono_l k
  unfold spec_l06Highest.f
  repeat' first | (with_reducible exact ih0 _ _ _) | (with_reducible exact LeO.refl _) | (with_reducible exact LeO.none _) | (with_reducible refine LeO.ite ?_ ?_) | (with_reducible refine LeO.bind ?_ (fun _ => ?_)) | exact ih0 _ _ _ | exact LeO.none _ | refine LeO.ite ?_ ?_ | refine LeO.bind ?_ (fun _ => ?_)
set_option maxHeartbeats 8000000 in
set_option maxRecDepth 100000 in
theorem spec_l06Highest.calls (k : Nat) (A0 : Option Addr) (c0 : Nat) (l0 : List Int) (r : Int) (w : World) (hr0 : Kd.C (Kd.int .i64) w A0 l0.length l0) (hc0 : l0.length ≤ c0) (h : spec_l06Highest.f k l0 = some r) :
    Calls Tryd.prog 27 #[.slice A0 l0.length c0] w fun e w' => e = .returned (.int .i64 r) ∧ Drawn0 w w' := by
 have HR0 := Aside0.mk hr0
 have HC0 := Aside0.mk hc0
 clear hr0 hc0
 have H : (spec_l06Highest.l0 k l0 0 1) = some r := h
 clear h
 have H' := Aside0.mk H
 clear H
 go_enter Tryd.func27, Tryd.ntmps27
 go_wp2
 repeat (go_quiet (fail); try go_wp2)
 go_loopg [3, 4] k (fun kq v3 v4 w' => ∃ (x3_1 : Int) (x4_1 : Int), v3 = .int .i64 x3_1 ∧ v4 = .int .i64 x4_1 ∧ Aside0 (spec_l06Highest.l0 kq l0 x3_1 x4_1 = some r) ∧ Aside0 (kq ≤ k) ∧ Drawn0 w w')
 case atStart => exact ⟨(0), (1), zF, zF, H', ⟨Nat.le_refl _⟩, by repeat (first | exact Drawn0.refl _ | apply Drawn0.step)⟩
 clear H'
 obtain ⟨x3_1, x4_1, rfl, rfl, HA, HK1, ⟨m1, rfl⟩⟩ := hrel
 cases gk with
 | zero => exact absurd HA.out (by simp [spec_l06Highest.l0])
 | succ k1 =>
   have H := HA.out
   clear HA
   simp only [spec_l06Highest.l0] at H
   by_cases c2 : x4_1 < (l0.length : Int)
   · rw [if_pos c2] at H
     have c2b0 : decide (x4_1 < (l0.length : Int)) = true := decide_eq_true c2
     clear c2
     by_cases c3 : 0 ≤ x4_1
     · rw [if_pos c3] at H
       have c3b0 : decide (0 ≤ x4_1) = true := decide_eq_true c3
       clear c3
       by_cases c4 : 0 ≤ x3_1
       · rw [if_pos c4] at H
         have c4b0 : decide (0 ≤ x3_1) = true := decide_eq_true c4
         clear c4
         by_cases c5 : x3_1 < (l0.length : Int)
         · rw [if_pos c5] at H
           have c5b0 : decide (x3_1 < (l0.length : Int)) = true := decide_eq_true c5
           clear c5
           by_cases c6 : (rd l0 x4_1) > (rd l0 x3_1)
           · rw [if_pos c6] at H
             have c6b0 : decide ((rd l0 x3_1) < (rd l0 x4_1)) = true := decide_eq_true c6
             clear c6
             have H' := Aside0.mk H
             clear H
             have p101 : 0 ≤ (x4_1 : Int) := zD
             have q101 : x4_1 < (l0.length : Int) := zD
             obtain ⟨ad101, e101, hx101_0⟩ := Kd.at_int HR0.out x4_1 p101 q101
             cases e101
             replace p101 := eq_true p101
             replace q101 := eq_true q101
             have p102 : 0 ≤ (x3_1 : Int) := zD
             have q102 : x3_1 < (l0.length : Int) := zD
             obtain ⟨ad102, e102, hx102_0⟩ := Kd.at_int HR0.out x3_1 p102 q102
             obtain rfl : ad101 = ad102 := (by injection e102)
             replace p102 := eq_true p102
             replace q102 := eq_true q102
             go_wp2
             repeat (go_quiet (fail); try go_wp2)
             go_roundg k1
             case measure => have := HK1.out; omega
             case rel => exact ⟨(x4_1), (wrap64 (x4_1 + 1)), zF, zF, H', ⟨by have := HK1.out; omega⟩, by repeat (first | exact Drawn0.refl _ | apply Drawn0.step)⟩
           · rw [if_neg c6] at H
             have c6b0 : decide ((rd l0 x3_1) < (rd l0 x4_1)) = false := decide_eq_false c6
             clear c6
             have H' := Aside0.mk H
             clear H
             have p101 : 0 ≤ (x4_1 : Int) := zD
             have q101 : x4_1 < (l0.length : Int) := zD
             obtain ⟨ad101, e101, hx101_0⟩ := Kd.at_int HR0.out x4_1 p101 q101
             cases e101
             replace p101 := eq_true p101
             replace q101 := eq_true q101
             have p102 : 0 ≤ (x3_1 : Int) := zD
             have q102 : x3_1 < (l0.length : Int) := zD
             obtain ⟨ad102, e102, hx102_0⟩ := Kd.at_int HR0.out x3_1 p102 q102
             obtain rfl : ad101 = ad102 := (by injection e102)
             replace p102 := eq_true p102
             replace q102 := eq_true q102
             go_wp2
             repeat (go_quiet (fail); try go_wp2)
             go_roundg k1
             case measure => have := HK1.out; omega
             case rel => exact ⟨(x3_1), (wrap64 (x4_1 + 1)), zF, zF, H', ⟨by have := HK1.out; omega⟩, by repeat (first | exact Drawn0.refl _ | apply Drawn0.step)⟩
         · rw [if_neg c5] at H
           exact absurd H (by simp)
       · rw [if_neg c4] at H
         exact absurd H (by simp)
     · rw [if_neg c3] at H
       exact absurd H (by simp)
   · rw [if_neg c2] at H
     have c2b0 : decide (x4_1 < (l0.length : Int)) = false := decide_eq_false c2
     clear c2
     obtain rfl := Option.some.inj H
     go_wp2
     repeat (go_quiet (fail); try go_wp2)
     go_ret
     exact ⟨by first | rfl | (simp; done) | (simp [*]; done), by repeat (first | exact Drawn0.refl _ | apply Drawn0.step)⟩
end Go.Proofs.YtajfblkidneckaaDoor.P
end
section
namespace Go.Proofs.YtajfblkidneckaaDoor.P
open Go.RowKit Go.Proofs.YtajfblkidneckaaDoorW.PrintWords Go.Proofs.YtajfblkidneckaaDoorW.PrintLast Go.Proofs.YtajfblkidneckaaDoorW.PrintMore
attribute [local go_sem] max2_int min2_int max_two min_two max_three min_three max_four min_four   -- for this text's walks alone
set_option linter.unusedVariables false
set_option linter.unusedSimpArgs false
def spec_l06Fastest.l0 : Nat → List Int → Int → Int → Int → List Int → Option (Int)
  | 0, _, _, _, _, _ => none
  | k + 1, x1, x2, x7, x8, x102000 => if x8 < (x1.length : Int) then (if 0 ≤ x8 then (if (rd x1 x8) ≥ x2 then (if x7 < 0 then (spec_l06Fastest.l0 k x1 x2 x8 (wrap64 (x8 + 1)) x102000) else (if x8 < (x102000.length : Int) then (if 0 ≤ x7 then (if x7 < (x102000.length : Int) then (if (rd x102000 x8) > (rd x102000 x7) then (spec_l06Fastest.l0 k x1 x2 x8 (wrap64 (x8 + 1)) x102000) else (spec_l06Fastest.l0 k x1 x2 x7 (wrap64 (x8 + 1)) x102000)) else (none)) else (none)) else (none))) else (spec_l06Fastest.l0 k x1 x2 x7 (wrap64 (x8 + 1)) x102000)) else (none)) else (some x7)
def spec_l06Fastest.f (k : Nat) (l0_0 : List Int) (l1 : List Int) (a2 : Int) : Option (Int) := spec_l06Fastest.l0 k l1 a2 (-1) 0 l0_0
theorem spec_l06Fastest.mono_l : ∀ k, (∀ y0 y1 y2 y3 y4, LeO (spec_l06Fastest.l0 k y0 y1 y2 y3 y4) (spec_l06Fastest.l0 (k + 1) y0 y1 y2 y3 y4))
  | 0 => fun _ _ _ _ _ r h => by simp [spec_l06Fastest.l0] at h
  | k + 1 => by
    have ih0 := spec_l06Fastest.mono_l k
    · intro y0 y1 y2 y3 y4
      unfold spec_l06Fastest.l0
      repeat' first | (with_reducible exact ih0 _ _ _ _ _) | (with_reducible exact LeO.refl _) | (with_reducible exact LeO.none _) | (with_reducible refine LeO.ite ?_ ?_) | (with_reducible refine LeO.bind ?_ (fun _ => ?_)) | exact ih0 _ _ _ _ _ | exact LeO.none _ | refine LeO.ite ?_ ?_ | refine LeO.bind ?_ (fun _ => ?_)
theorem spec_l06Fastest.mono : ∀ a0 a1 a2 k, LeO (spec_l06Fastest.f k a0 a1 a2) (spec_l06Fastest.f (k + 1) a0 a1 a2) := by
  intro a0 a1 a2 k
  have ih0 := spec_l06Fastest.mono_l k
  unfold spec_l06Fastest.f
  repeat' first | (with_reducible exact ih0 _ _ _ _ _) | (with_reducible exact LeO.refl _) | (with_reducible exact LeO.none _) | (with_reducible refine LeO.ite ?_ ?_) | (with_reducible refine LeO.bind ?_ (fun _ => ?_)) | exact ih0 _ _ _ _ _ | exact LeO.none _ | refine LeO.ite ?_ ?_ | refine LeO.bind ?_ (fun _ => ?_)
set_option maxHeartbeats 8000000 in
set_option maxRecDepth 100000 in
theorem spec_l06Fastest.calls (k : Nat) (A0_0 : Option Addr) (c0_0 : Nat) (l0_0 : List Int) (A1 : Option Addr) (c1 : Nat) (l1 : List Int) (a2 : Int) (r : Int) (w : World) (hr0_0 : Kd.C (Kd.int .i64) w A0_0 l0_0.length l0_0) (hc0_0 : l0_0.length ≤ c0_0) (hr1 : Kd.C (Kd.int .i64) w A1 l1.length l1) (hc1 : l1.length ≤ c1) (h : spec_l06Fastest.f k l0_0 l1 a2 = some r) :
    Calls Tryd.prog 28 #[.agg #[.slice A0_0 l0_0.length c0_0], .slice A1 l1.length c1, .int .i64 a2] w fun e w' => e = .returned (.int .i64 r) ∧ Below w.heap.size w w' := by
 have hu28 := Tryd.underlying28
 have HR0_0 := Aside0.mk hr0_0
 have HC0_0 := Aside0.mk hc0_0
 clear hr0_0 hc0_0
 have HR1 := Aside0.mk hr1
 have HC1 := Aside0.mk hc1
 clear hr1 hc1
 have HB := Aside0.mk (Below.refl w.heap.size w)
 have H : (spec_l06Fastest.l0 k l1 a2 (-1) 0 l0_0) = some r := h
 clear h
 have H' := Aside0.mk H
 clear H
 go_enter Tryd.func28, Tryd.ntmps28
 go_wp2_with (first | ((with_reducible refine gate_dst (N := 3) rfl ?_); refine box_event zr (N := 3) zr (cs := #[.slice A0_0 l0_0.length c0_0]) (t := 28) zg ?_; intro gb101 hg w4 hbox hb; have n_ := y4 (below_step (zB) hb) (hbox) ((zS hg : w.heap.size ≤ gb101)) ((zS hg : w.heap.size ≤ gb101)); clear HB; obtain ⟨HB, BK101, GW101, GE101⟩ := n_; clear hb hbox hg))
 repeat (go_quiet (first | ((with_reducible refine gate_dst (N := 3) rfl ?_); refine box_event zr (N := 3) zr (cs := #[.slice A0_0 l0_0.length c0_0]) (t := 28) zg ?_; intro gb101 hg w4 hbox hb; have n_ := y4 (below_step (zB) hb) (hbox) ((zS hg : w.heap.size ≤ gb101)) ((zS hg : w.heap.size ≤ gb101)); clear HB; obtain ⟨HB, BK101, GW101, GE101⟩ := n_; clear hb hbox hg)); try go_wp2_with (first | ((with_reducible refine gate_dst (N := 3) rfl ?_); refine box_event zr (N := 3) zr (cs := #[.slice A0_0 l0_0.length c0_0]) (t := 28) zg ?_; intro gb101 hg w4 hbox hb; have n_ := y4 (below_step (zB) hb) (hbox) ((zS hg : w.heap.size ≤ gb101)) ((zS hg : w.heap.size ≤ gb101)); clear HB; obtain ⟨HB, BK101, GW101, GE101⟩ := n_; clear hb hbox hg)))
 go_loopg [7, 8] k (fun kq v7 v8 w' => ∃ (x7_1 : Int) (x8_1 : Int), v7 = .int .i64 x7_1 ∧ v8 = .int .i64 x8_1 ∧ Aside0 (spec_l06Fastest.l0 kq l1 a2 x7_1 x8_1 l0_0 = some r) ∧ Aside0 (kq ≤ k) ∧ Aside0 (w'.heap[gb101]? = some (.cells #[(.slice A0_0 l0_0.length c0_0)] 28 (0, 0))) ∧ Aside0 (Below w.heap.size w w'))
 case atStart => exact ⟨((-1)), (0), zF, zF, H', ⟨Nat.le_refl _⟩, ⟨zG BK101.out⟩, ⟨zB⟩⟩
 clear H'
 obtain ⟨x7_1, x8_1, rfl, rfl, HA, HK1, BK101, HB⟩ := hrel
 cases gk with
 | zero => exact absurd HA.out (by simp [spec_l06Fastest.l0])
 | succ k1 =>
   have H := HA.out
   clear HA
   simp only [spec_l06Fastest.l0] at H
   by_cases c5 : x8_1 < (l1.length : Int)
   · rw [if_pos c5] at H
     have c5b0 : decide (x8_1 < (l1.length : Int)) = true := decide_eq_true c5
     clear c5
     by_cases c6 : 0 ≤ x8_1
     · rw [if_pos c6] at H
       have c6b0 : decide (0 ≤ x8_1) = true := decide_eq_true c6
       clear c6
       by_cases c7 : (rd l1 x8_1) ≥ a2
       · rw [if_pos c7] at H
         have c7b0 : decide (a2 ≤ (rd l1 x8_1)) = true := decide_eq_true c7
         clear c7
         by_cases c8 : x7_1 < 0
         · rw [if_pos c8] at H
           have c8b0 : decide (x7_1 < 0) = true := decide_eq_true c8
           clear c8
           have H' := Aside0.mk H
           clear H
           have p102 : 0 ≤ (x8_1 : Int) := zD
           have q102 : x8_1 < (l1.length : Int) := zD
           obtain ⟨ad102, e102, hx102_0⟩ := Kd.at_int HR1.out x8_1 p102 q102
           cases e102
           replace hx102_0 := (HB.out.cell (World.block_lt_of_cell? w _ hx102_0)).trans hx102_0
           replace p102 := eq_true p102
           replace q102 := eq_true q102
           go_wp2
           repeat (go_quiet (fail); try go_wp2)
           go_roundg k1
           case measure => have := HK1.out; omega
           case rel => exact ⟨(x8_1), (wrap64 (x8_1 + 1)), zF, zF, H', ⟨by have := HK1.out; omega⟩, ⟨zG BK101.out⟩, ⟨zB⟩⟩
         · rw [if_neg c8] at H
           have c8b0 : decide (x7_1 < 0) = false := decide_eq_false c8
           clear c8
           by_cases c9 : x8_1 < (l0_0.length : Int)
           · rw [if_pos c9] at H
             have c9b0 : decide (x8_1 < (l0_0.length : Int)) = true := decide_eq_true c9
             clear c9
             by_cases c10 : 0 ≤ x7_1
             · rw [if_pos c10] at H
               have c10b0 : decide (0 ≤ x7_1) = true := decide_eq_true c10
               clear c10
               by_cases c11 : x7_1 < (l0_0.length : Int)
               · rw [if_pos c11] at H
                 have c11b0 : decide (x7_1 < (l0_0.length : Int)) = true := decide_eq_true c11
                 clear c11
                 by_cases c12 : (rd l0_0 x8_1) > (rd l0_0 x7_1)
                 · rw [if_pos c12] at H
                   have c12b0 : decide ((rd l0_0 x7_1) < (rd l0_0 x8_1)) = true := decide_eq_true c12
                   clear c12
                   have H' := Aside0.mk H
                   clear H
                   have p102 : 0 ≤ (x8_1 : Int) := zD
                   have q102 : x8_1 < (l1.length : Int) := zD
                   obtain ⟨ad102, e102, hx102_0⟩ := Kd.at_int HR1.out x8_1 p102 q102
                   cases e102
                   replace hx102_0 := (HB.out.cell (World.block_lt_of_cell? w _ hx102_0)).trans hx102_0
                   replace p102 := eq_true p102
                   replace q102 := eq_true q102
                   have hcz13_0 := zc BK101.out
                   have hfz13_0 := blk_frozen BK101.out 0
                   have p103 : 0 ≤ (x8_1 : Int) := zD
                   have q103 : x8_1 < (l0_0.length : Int) := zD
                   obtain ⟨ad103, e103, hx103_0⟩ := Kd.at_int HR0_0.out x8_1 p103 q103
                   cases e103
                   replace hx103_0 := (HB.out.cell (World.block_lt_of_cell? w _ hx103_0)).trans hx103_0
                   replace p103 := eq_true p103
                   replace q103 := eq_true q103
                   have p104 : 0 ≤ (x7_1 : Int) := zD
                   have q104 : x7_1 < (l0_0.length : Int) := zD
                   obtain ⟨ad104, e104, hx104_0⟩ := Kd.at_int HR0_0.out x7_1 p104 q104
                   obtain rfl : ad103 = ad104 := (by injection e104)
                   replace hx104_0 := (HB.out.cell (World.block_lt_of_cell? w _ hx104_0)).trans hx104_0
                   replace p104 := eq_true p104
                   replace q104 := eq_true q104
                   go_wp2
                   repeat (go_quiet (fail); try go_wp2)
                   go_roundg k1
                   case measure => have := HK1.out; omega
                   case rel => exact ⟨(x8_1), (wrap64 (x8_1 + 1)), zF, zF, H', ⟨by have := HK1.out; omega⟩, ⟨zG BK101.out⟩, ⟨zB⟩⟩
                 · rw [if_neg c12] at H
                   have c12b0 : decide ((rd l0_0 x7_1) < (rd l0_0 x8_1)) = false := decide_eq_false c12
                   clear c12
                   have H' := Aside0.mk H
                   clear H
                   have p102 : 0 ≤ (x8_1 : Int) := zD
                   have q102 : x8_1 < (l1.length : Int) := zD
                   obtain ⟨ad102, e102, hx102_0⟩ := Kd.at_int HR1.out x8_1 p102 q102
                   cases e102
                   replace hx102_0 := (HB.out.cell (World.block_lt_of_cell? w _ hx102_0)).trans hx102_0
                   replace p102 := eq_true p102
                   replace q102 := eq_true q102
                   have hcz14_0 := zc BK101.out
                   have hfz14_0 := blk_frozen BK101.out 0
                   have p103 : 0 ≤ (x8_1 : Int) := zD
                   have q103 : x8_1 < (l0_0.length : Int) := zD
                   obtain ⟨ad103, e103, hx103_0⟩ := Kd.at_int HR0_0.out x8_1 p103 q103
                   cases e103
                   replace hx103_0 := (HB.out.cell (World.block_lt_of_cell? w _ hx103_0)).trans hx103_0
                   replace p103 := eq_true p103
                   replace q103 := eq_true q103
                   have p104 : 0 ≤ (x7_1 : Int) := zD
                   have q104 : x7_1 < (l0_0.length : Int) := zD
                   obtain ⟨ad104, e104, hx104_0⟩ := Kd.at_int HR0_0.out x7_1 p104 q104
                   obtain rfl : ad103 = ad104 := (by injection e104)
                   replace hx104_0 := (HB.out.cell (World.block_lt_of_cell? w _ hx104_0)).trans hx104_0
                   replace p104 := eq_true p104
                   replace q104 := eq_true q104
                   go_wp2
                   repeat (go_quiet (fail); try go_wp2)
                   go_roundg k1
                   case measure => have := HK1.out; omega
                   case rel => exact ⟨(x7_1), (wrap64 (x8_1 + 1)), zF, zF, H', ⟨by have := HK1.out; omega⟩, ⟨zG BK101.out⟩, ⟨zB⟩⟩
               · rw [if_neg c11] at H
                 exact absurd H (by simp)
             · rw [if_neg c10] at H
               exact absurd H (by simp)
           · rw [if_neg c9] at H
             exact absurd H (by simp)
       · rw [if_neg c7] at H
         have c7b0 : decide (a2 ≤ (rd l1 x8_1)) = false := decide_eq_false c7
         clear c7
         have H' := Aside0.mk H
         clear H
         have p102 : 0 ≤ (x8_1 : Int) := zD
         have q102 : x8_1 < (l1.length : Int) := zD
         obtain ⟨ad102, e102, hx102_0⟩ := Kd.at_int HR1.out x8_1 p102 q102
         cases e102
         replace hx102_0 := (HB.out.cell (World.block_lt_of_cell? w _ hx102_0)).trans hx102_0
         replace p102 := eq_true p102
         replace q102 := eq_true q102
         go_wp2
         repeat (go_quiet (fail); try go_wp2)
         go_roundg k1
         case measure => have := HK1.out; omega
         case rel => exact ⟨(x7_1), (wrap64 (x8_1 + 1)), zF, zF, H', ⟨by have := HK1.out; omega⟩, ⟨zG BK101.out⟩, ⟨zB⟩⟩
     · rw [if_neg c6] at H
       exact absurd H (by simp)
   · rw [if_neg c5] at H
     have c5b0 : decide (x8_1 < (l1.length : Int)) = false := decide_eq_false c5
     clear c5
     obtain rfl := Option.some.inj H
     go_wp2
     repeat (go_quiet (fail); try go_wp2)
     go_ret
     exact ⟨zE, zB⟩
end Go.Proofs.YtajfblkidneckaaDoor.P
end
section
namespace Go.Proofs.YtajfblkidneckaaDoor.P
open Go.RowKit Go.Proofs.YtajfblkidneckaaDoorW.PrintWords Go.Proofs.YtajfblkidneckaaDoorW.PrintLast Go.Proofs.YtajfblkidneckaaDoorW.PrintMore
attribute [local go_sem] max2_int min2_int max_two min_two max_three min_three max_four min_four   -- for this text's walks alone
set_option linter.unusedVariables false
set_option linter.unusedSimpArgs false
def spec_l06Same.l0 : Nat → List Int → List Int → Int → Option (Bool)
  | 0, _, _, _ => none
  | k + 1, x0, x1, x5 => if x5 < (x0.length : Int) then (if 0 ≤ x5 then (if x5 < (x1.length : Int) then (if (rd x0 x5) = (rd x1 x5) then (spec_l06Same.l0 k x0 x1 (wrap64 (x5 + 1))) else (some false)) else (none)) else (none)) else (some true)
def spec_l06Same.f (k : Nat) (l0 : List Int) (l1 : List Int) : Option (Bool) := spec_l06Same.l0 k l0 l1 0
theorem spec_l06Same.mono_l : ∀ k, (∀ y0 y1 y2, LeO (spec_l06Same.l0 k y0 y1 y2) (spec_l06Same.l0 (k + 1) y0 y1 y2))
  | 0 => fun _ _ _ r h => by simp [spec_l06Same.l0] at h
  | k + 1 => by
    have ih0 := spec_l06Same.mono_l k
    · intro y0 y1 y2
      unfold spec_l06Same.l0
      repeat' first | (with_reducible exact ih0 _ _ _) | (with_reducible exact LeO.refl _) | (with_reducible exact LeO.none _) | (with_reducible refine LeO.ite ?_ ?_) | (with_reducible refine LeO.bind ?_ (fun _ => ?_)) | exact ih0 _ _ _ | exact LeO.none _ | refine LeO.ite ?_ ?_ | refine LeO.bind ?_ (fun _ => ?_)
theorem spec_l06Same.mono : ∀ a0 a1 k, LeO (spec_l06Same.f k a0 a1) (spec_l06Same.f (k + 1) a0 a1) := by
  intro a0 a1 k
  have ih0 := spec_l06Same.mono_l k
  unfold spec_l06Same.f
  repeat' first | (with_reducible exact ih0 _ _ _) | (with_reducible exact LeO.refl _) | (with_reducible exact LeO.none _) | (with_reducible refine LeO.ite ?_ ?_) | (with_reducible refine LeO.bind ?_ (fun _ => ?_)) | exact ih0 _ _ _ | exact LeO.none _ | refine LeO.ite ?_ ?_ | refine LeO.bind ?_ (fun _ => ?_)
set_option maxHeartbeats 8000000 in
set_option maxRecDepth 100000 in
theorem spec_l06Same.calls (k : Nat) (A0 : Option Addr) (c0 : Nat) (l0 : List Int) (A1 : Option Addr) (c1 : Nat) (l1 : List Int) (r : Bool) (w : World) (hr0 : Kd.C (Kd.int .i64) w A0 l0.length l0) (hc0 : l0.length ≤ c0) (hr1 : Kd.C (Kd.int .i64) w A1 l1.length l1) (hc1 : l1.length ≤ c1) (h : spec_l06Same.f k l0 l1 = some r) :
    Calls Tryd.prog 29 #[.slice A0 l0.length c0, .slice A1 l1.length c1] w fun e w' => e = .returned (.bool r) ∧ Drawn0 w w' := by
 have HR0 := Aside0.mk hr0
 have HC0 := Aside0.mk hc0
 clear hr0 hc0
 have HR1 := Aside0.mk hr1
 have HC1 := Aside0.mk hc1
 clear hr1 hc1
 have H : (spec_l06Same.l0 k l0 l1 0) = some r := h
 clear h
 have H' := Aside0.mk H
 clear H
 go_enter Tryd.func29, Tryd.ntmps29
 go_wp2
 repeat (go_quiet (fail); try go_wp2)
 go_loopg [5] k (fun kq v5 w' => ∃ (x5_1 : Int), v5 = .int .i64 x5_1 ∧ Aside0 (spec_l06Same.l0 kq l0 l1 x5_1 = some r) ∧ Aside0 (kq ≤ k) ∧ Drawn0 w w')
 case atStart => exact ⟨(0), zF, H', ⟨Nat.le_refl _⟩, by repeat (first | exact Drawn0.refl _ | apply Drawn0.step)⟩
 clear H'
 obtain ⟨x5_1, rfl, HA, HK1, ⟨m1, rfl⟩⟩ := hrel
 cases gk with
 | zero => exact absurd HA.out (by simp [spec_l06Same.l0])
 | succ k1 =>
   have H := HA.out
   clear HA
   simp only [spec_l06Same.l0] at H
   by_cases c3 : x5_1 < (l0.length : Int)
   · rw [if_pos c3] at H
     have c3b0 : decide (x5_1 < (l0.length : Int)) = true := decide_eq_true c3
     clear c3
     by_cases c4 : 0 ≤ x5_1
     · rw [if_pos c4] at H
       have c4b0 : decide (0 ≤ x5_1) = true := decide_eq_true c4
       clear c4
       by_cases c5 : x5_1 < (l1.length : Int)
       · rw [if_pos c5] at H
         have c5b0 : decide (x5_1 < (l1.length : Int)) = true := decide_eq_true c5
         clear c5
         by_cases c6 : (rd l0 x5_1) = (rd l1 x5_1)
         · rw [if_pos c6] at H
           have c6b0 : ((rd l0 x5_1) == (rd l1 x5_1)) = true := beq_iff_eq.mpr c6
           have c6b1 : ((rd l0 x5_1) != (rd l1 x5_1)) = false := bne_eq_false_iff_eq.mpr c6
           clear c6
           have H' := Aside0.mk H
           clear H
           have p101 : 0 ≤ (x5_1 : Int) := zD
           have q101 : x5_1 < (l0.length : Int) := zD
           obtain ⟨ad101, e101, hx101_0⟩ := Kd.at_int HR0.out x5_1 p101 q101
           cases e101
           replace p101 := eq_true p101
           replace q101 := eq_true q101
           have p102 : 0 ≤ (x5_1 : Int) := zD
           have q102 : x5_1 < (l1.length : Int) := zD
           obtain ⟨ad102, e102, hx102_0⟩ := Kd.at_int HR1.out x5_1 p102 q102
           cases e102
           replace p102 := eq_true p102
           replace q102 := eq_true q102
           go_wp2
           repeat (go_quiet (fail); try go_wp2)
           go_roundg k1
           case measure => have := HK1.out; omega
           case rel => exact ⟨(wrap64 (x5_1 + 1)), zF, H', ⟨by have := HK1.out; omega⟩, by repeat (first | exact Drawn0.refl _ | apply Drawn0.step)⟩
         · rw [if_neg c6] at H
           have c6b0 : ((rd l0 x5_1) == (rd l1 x5_1)) = false := beq_eq_false_iff_ne.mpr c6
           have c6b1 : ((rd l0 x5_1) != (rd l1 x5_1)) = true := bne_iff_ne.mpr c6
           obtain rfl := Option.some.inj H
           have p101 : 0 ≤ (x5_1 : Int) := zD
           have q101 : x5_1 < (l0.length : Int) := zD
           obtain ⟨ad101, e101, hx101_0⟩ := Kd.at_int HR0.out x5_1 p101 q101
           cases e101
           replace p101 := eq_true p101
           replace q101 := eq_true q101
           have p102 : 0 ≤ (x5_1 : Int) := zD
           have q102 : x5_1 < (l1.length : Int) := zD
           obtain ⟨ad102, e102, hx102_0⟩ := Kd.at_int HR1.out x5_1 p102 q102
           cases e102
           replace p102 := eq_true p102
           replace q102 := eq_true q102
           go_wp2
           repeat (go_quiet (fail); try go_wp2)
           go_ret
           exact ⟨by first | rfl | (simp; done) | (simp [*]; done), by repeat (first | exact Drawn0.refl _ | apply Drawn0.step)⟩
       · rw [if_neg c5] at H
         exact absurd H (by simp)
     · rw [if_neg c4] at H
       exact absurd H (by simp)
   · rw [if_neg c3] at H
     have c3b0 : decide (x5_1 < (l0.length : Int)) = false := decide_eq_false c3
     clear c3
     obtain rfl := Option.some.inj H
     go_wp2
     repeat (go_quiet (fail); try go_wp2)
     go_ret
     exact ⟨by first | rfl | (simp; done) | (simp [*]; done), by repeat (first | exact Drawn0.refl _ | apply Drawn0.step)⟩
end Go.Proofs.YtajfblkidneckaaDoor.P
end
section
namespace Go.Proofs.YtajfblkidneckaaDoor.P
open Go.RowKit Go.Proofs.YtajfblkidneckaaDoorW.PrintWords Go.Proofs.YtajfblkidneckaaDoorW.PrintLast Go.Proofs.YtajfblkidneckaaDoorW.PrintMore
attribute [local go_sem] max2_int min2_int max_two min_two max_three min_three max_four min_four   -- for this text's walks alone
set_option linter.unusedVariables false
set_option linter.unusedSimpArgs false
def spec_l01Own.f (l0 : List Int) : Option (List Int) := (some (([] : List Int) : List Int)).bind fun y101 => (if y101.length + l0.length < 17592186044416 then (some (y101 ++ l0)) else (none))
set_option maxHeartbeats 8000000 in
set_option maxRecDepth 100000 in
theorem spec_l01Own.calls (A0 : Option Addr) (c0 : Nat) (l0 : List Int) (r : List Int) (w : World) (hr0 : Kd.C (Kd.int .i64) w A0 l0.length l0) (hc0 : l0.length ≤ c0) (h : spec_l01Own.f l0 = some r) :
    Calls Tryd.prog 30 #[.slice A0 l0.length c0] w fun e w' => ∃ v0_ : Value, e = .returned (v0_) ∧ Kd.R (Kd.int .i64) 2 w' w.heap.size (fun _ => True) v0_ r ∧ Below w.heap.size w w' := by
 have HR0 := Aside0.mk hr0
 have HC0 := Aside0.mk hc0
 clear hr0 hc0
 have HB := Aside0.mk (Below.refl w.heap.size w)
 have H : ((some (([] : List Int) : List Int)).bind fun y101 => (if y101.length + l0.length < 17592186044416 then (some (y101 ++ l0)) else (none))) = some r := h
 clear h
 obtain ⟨y101, hy101⟩ : ∃ y_ : List Int, y_ = (([] : List Int)) := ⟨_, rfl⟩
 replace H : (if y101.length + l0.length < 17592186044416 then (some (y101 ++ l0)) else (none)) = some r := zH hy101
 have Ny101 := Aside0.mk hy101
 clear hy101
 by_cases c2 : y101.length + l0.length < 17592186044416
 case neg => rw [if_neg c2] at H; exact absurd H (by simp)
 rw [if_pos c2] at H
 have LMc2 := Aside0.mk c2
 clear c2
 obtain ⟨y104, hy104⟩ : ∃ y_ : List Int, y_ = (y101 ++ l0) := ⟨_, rfl⟩
 replace H : (some y104) = some r := zH hy104
 have Ny104 := Aside0.mk hy104
 clear hy104
 obtain rfl := Option.some.inj H
 go_enter Tryd.func30, Tryd.ntmps30
 go_wp2_with (first | ((with_reducible refine gate_dst (N := 3) rfl ?_); refine Kd.R_lit (Kd.int .i64) _ 2 ?hg (N := 3) ?hd (xs := ([] : List Int)) (inner := []) (ok := fun _ => True) (okp := fun _ => True) ?hr ?hp (fun _ hk => hk) trivial (Below.refl _ _) (Nat.le_refl _) (by simp) ?_; (case hd => rfl); (case hg => rfl); (case hr => first | (go_simp; done) | (go_simp; rfl)); (case hp => exact (Reps.none _ _)); intro v102 w3 ho4 hb hg_ hnew_; clear hg_ hnew_; (first | rw [← Ny101.out] at ho4 | (simp only [Int.reduceToNat] at ho4; rw [← Ny101.out] at ho4)); have n_ := y2 (Kd.R_lower ho4 (below_size (zB))) (below_step (zB) hb); clear HB; obtain ⟨HO103, HB⟩ := n_; clear hb ho4) | ((with_reducible refine gate_builtin (b := .append) (xs := #[.tmp 3, .tmp 4]) rfl ?_); at_builtin; refine Kd.R_append_rows (Kd.int .i64) (w0 := w) w.heap.size rfl (.tmp 3) (.tmp 4) 22 2 (.int .i64 0) 8 rfl Tryd.underlying22 info2 rfl (by decide) (by omega) v102 y101 l0 _ _ _ (fun _ => True) (fun _ => False) rfl rfl ?aO ?aR (fun _ _ h => h) (fun _ h => h.elim) ?aF ?aB ?aS ?aL ?_; (case aR => repeat (first | exact (Kd.C_below HR0.out HB.out) | (with_reducible refine Kd.C_alloc ?_ _) | (with_reducible refine Kd.C_drewN ?_ _) | (with_reducible refine Kd.C_drew ?_))); (case aB => exact (zB)); (case aF => exact (fun _ _ => trivial)); (case aO => exact (zR HO103.out)); (case aS => exact (below_size (zB))); (case aL => have := LMc2.out; omega); intro v105 w5 ho hb hg hat; rw [← Ny104.out] at ho; have n_ := y2 (hb) (ho); clear HB HO103; obtain ⟨HB, HO106⟩ := n_; clear ho hb hg hat))
 go_ret
 exact ⟨_, zE, zR HO106.out, zB⟩
end Go.Proofs.YtajfblkidneckaaDoor.P
end
section
namespace Go.Proofs.YtajfblkidneckaaDoor.P
open Go.RowKit Go.Proofs.YtajfblkidneckaaDoorW.PrintWords Go.Proofs.YtajfblkidneckaaDoorW.PrintLast Go.Proofs.YtajfblkidneckaaDoorW.PrintMore
attribute [local go_sem] max2_int min2_int max_two min_two max_three min_three max_four min_four   -- for this text's walks alone
set_option linter.unusedVariables false
set_option linter.unusedSimpArgs false
mutual
def spec_l06Round.l0 : Nat → Int → List (List Int) → List Int → Int → List Int → Option (List Int × Int × Bool)
  | 0, _, _, _, _, _ => none
  | k + 1, x1, x7, x8, x9, x102000 => if x9 < 200 then (if 0 ≤ x9 then (if x9 < (x7.length : Int) then ((spec_l06Grow.f k x102000 (rd_L1 x7 x9) 1).bind fun t112 => ((spec_l06Highest.f k t112).bind fun t115 => (if x1 > 0 then ((spec_l06Fastest.f k x102000 t112 x1).bind fun t116 => (spec_l06Round.j1 k x1 x7 x8 x9 t112 t116 x102000)) else (spec_l06Round.j1 k x1 x7 x8 x9 t112 t115 x102000)))) else (none)) else (none)) else (some (([] : List Int), 0, false))
def spec_l06Round.j1 : Nat → Int → List (List Int) → List Int → Int → List Int → Int → List Int → Option (List Int × Int × Bool)
  | 0, _, _, _, _, _, _, _ => none
  | k + 1, x1, x7, x8, x9, x10, x11, x102000 => if x11 ≥ 0 then (if 0 ≤ x11 then (if x11 < (x10.length : Int) then (spec_l06Round.j2 k x1 x7 x8 x9 (x10.set (x11 : Int).toNat 0) x11 x102000) else (none)) else (none)) else (spec_l06Round.j2 k x1 x7 x8 x9 x10 x11 x102000)
def spec_l06Round.j2 : Nat → Int → List (List Int) → List Int → Int → List Int → Int → List Int → Option (List Int × Int × Bool)
  | 0, _, _, _, _, _, _, _ => none
  | k + 1, x1, x7, x8, x9, x10, x11, x102000 => if x8.length < 17592186044416 then (spec_l06Round.l1 k x1 x7 (x8 ++ [x11]) x9 x10 0 x102000) else (none)
def spec_l06Round.l1 : Nat → Int → List (List Int) → List Int → Int → List Int → Int → List Int → Option (List Int × Int × Bool)
  | 0, _, _, _, _, _, _, _ => none
  | k + 1, x1, x7, x8, x9, x10, x12, x102000 => if x12 ≤ x9 then (if 0 ≤ x12 then (if x12 < (x7.length : Int) then ((spec_l06Same.f k (rd_L1 x7 x12) x10).bind fun t125 => (if t125 = true then (if x12 ≤ (x8.length : Int) then ((spec_l01Own.f (x8.drop (x12 : Int).toNat)).bind fun t131 => (some (t131, x12, true))) else (none)) else (spec_l06Round.l1 k x1 x7 x8 x9 x10 (wrap64 (x12 + 1)) x102000))) else (none)) else (none)) else (if x7.length < 5864062014805 then (spec_l06Round.l0 k x1 (x7 ++ [x10]) x8 (wrap64 (x9 + 1)) x102000) else (none))
end
def spec_l06Round.f (k : Nat) (l0_0 : List Int) (a1 : Int) : Option (List Int × Int × Bool) := if 0 ≤ (l0_0.length : Int) then (if ((l0_0.length : Int) : Int).toNat ≤ 35184372088832 then (spec_l06Round.l0 k a1 (([(List.replicate ((l0_0.length : Int) : Int).toNat 0)] : List (List Int))) (([] : List Int)) 0 l0_0) else (none)) else (none)
theorem spec_l06Round.mono_l : ∀ k, (∀ y0 y1 y2 y3 y4, LeO (spec_l06Round.l0 k y0 y1 y2 y3 y4) (spec_l06Round.l0 (k + 1) y0 y1 y2 y3 y4)) ∧ (∀ y0 y1 y2 y3 y4 y5 y6, LeO (spec_l06Round.j1 k y0 y1 y2 y3 y4 y5 y6) (spec_l06Round.j1 (k + 1) y0 y1 y2 y3 y4 y5 y6)) ∧ (∀ y0 y1 y2 y3 y4 y5 y6, LeO (spec_l06Round.j2 k y0 y1 y2 y3 y4 y5 y6) (spec_l06Round.j2 (k + 1) y0 y1 y2 y3 y4 y5 y6)) ∧ (∀ y0 y1 y2 y3 y4 y5 y6, LeO (spec_l06Round.l1 k y0 y1 y2 y3 y4 y5 y6) (spec_l06Round.l1 (k + 1) y0 y1 y2 y3 y4 y5 y6))
  | 0 => ⟨fun _ _ _ _ _ r h => by simp [spec_l06Round.l0] at h, fun _ _ _ _ _ _ _ r h => by simp [spec_l06Round.j1] at h, fun _ _ _ _ _ _ _ r h => by simp [spec_l06Round.j2] at h, fun _ _ _ _ _ _ _ r h => by simp [spec_l06Round.l1] at h⟩
  | k + 1 => by
    obtain ⟨ih0, ih1, ih2, ih3⟩ := spec_l06Round.mono_l k
    refine ⟨?_, ?_, ?_, ?_⟩ <;> intros <;> (first | unfold spec_l06Round.l0 | unfold spec_l06Round.j1 | unfold spec_l06Round.j2 | unfold spec_l06Round.l1) <;> repeat' first | (with_reducible exact ih0 _ _ _ _ _) | (with_reducible exact ih1 _ _ _ _ _ _ _) | (with_reducible exact ih2 _ _ _ _ _ _ _) | (with_reducible exact ih3 _ _ _ _ _ _ _) | (with_reducible exact spec_l06Fastest.mono _ _ _ _) | (with_reducible exact spec_l06Grow.mono _ _ _ _) | (with_reducible exact spec_l06Highest.mono _ _) | (with_reducible exact spec_l06Same.mono _ _ _) | (with_reducible exact LeO.refl _) | (with_reducible exact LeO.none _) | (with_reducible refine LeO.ite ?_ ?_) | (with_reducible refine LeO.bind ?_ (fun _ => ?_)) | exact ih0 _ _ _ _ _ | exact ih1 _ _ _ _ _ _ _ | exact ih2 _ _ _ _ _ _ _ | exact ih3 _ _ _ _ _ _ _ | exact spec_l06Fastest.mono _ _ _ _ | exact spec_l06Grow.mono _ _ _ _ | exact spec_l06Highest.mono _ _ | exact spec_l06Same.mono _ _ _ | exact LeO.none _ | refine LeO.ite ?_ ?_ | refine LeO.bind ?_ (fun _ => ?_)
theorem spec_l06Round.mono : ∀ a0 a1 k, LeO (spec_l06Round.f k a0 a1) (spec_l06Round.f (k + 1) a0 a1) := by
  intro a0 a1 k
  obtain ⟨ih0, ih1, ih2, ih3⟩ := spec_l06Round.mono_l k
  unfold spec_l06Round.f
  repeat' first | (with_reducible exact ih0 _ _ _ _ _) | (with_reducible exact ih1 _ _ _ _ _ _ _) | (with_reducible exact ih2 _ _ _ _ _ _ _) | (with_reducible exact ih3 _ _ _ _ _ _ _) | (with_reducible exact spec_l06Fastest.mono _ _ _ _) | (with_reducible exact spec_l06Grow.mono _ _ _ _) | (with_reducible exact spec_l06Highest.mono _ _) | (with_reducible exact spec_l06Same.mono _ _ _) | (with_reducible exact LeO.refl _) | (with_reducible exact LeO.none _) | (with_reducible refine LeO.ite ?_ ?_) | (with_reducible refine LeO.bind ?_ (fun _ => ?_)) | exact ih0 _ _ _ _ _ | exact ih1 _ _ _ _ _ _ _ | exact ih2 _ _ _ _ _ _ _ | exact ih3 _ _ _ _ _ _ _ | exact spec_l06Fastest.mono _ _ _ _ | exact spec_l06Grow.mono _ _ _ _ | exact spec_l06Highest.mono _ _ | exact spec_l06Same.mono _ _ _ | exact LeO.none _ | refine LeO.ite ?_ ?_ | refine LeO.bind ?_ (fun _ => ?_)
set_option maxHeartbeats 8000000 in
set_option maxRecDepth 100000 in
theorem spec_l06Round.calls (k : Nat) (A0_0 : Option Addr) (c0_0 : Nat) (l0_0 : List Int) (a1 : Int) (r1 : List Int) (r2 : Int) (r3 : Bool) (w : World) (hr0_0 : Kd.C (Kd.int .i64) w A0_0 l0_0.length l0_0) (hc0_0 : l0_0.length ≤ c0_0) (h : spec_l06Round.f k l0_0 a1 = some (r1, r2, r3)) :
    Calls Tryd.prog 19 #[.agg #[.slice A0_0 l0_0.length c0_0], .int .i64 a1] w fun e w' => ∃ v0_ : Value, e = .returned (.tuple #[v0_, .int .i64 r2, .bool r3]) ∧ Kd.R (Kd.int .i64) 2 w' w.heap.size (fun _ => True) v0_ r1 ∧ Below w.heap.size w w' := by
 have hu28 := Tryd.underlying28
 have HR0_0 := Aside0.mk hr0_0
 have HC0_0 := Aside0.mk hc0_0
 clear hr0_0 hc0_0
 have HB := Aside0.mk (Below.refl w.heap.size w)
 have H : (if 0 ≤ (l0_0.length : Int) then (if ((l0_0.length : Int) : Int).toNat ≤ 35184372088832 then (spec_l06Round.l0 k a1 (([(List.replicate ((l0_0.length : Int) : Int).toNat 0)] : List (List Int))) (([] : List Int)) 0 l0_0) else (none)) else (none)) = some (r1, r2, r3) := h
 clear h
 by_cases c3 : 0 ≤ (l0_0.length : Int)
 case neg => rw [if_neg c3] at H; exact absurd H (by simp)
 rw [if_pos c3] at H
 have c3b0 := eq_true c3
 have c3b1 : decide (0 ≤ (l0_0.length : Int)) = true := decide_eq_true c3
 clear c3
 by_cases c4 : ((l0_0.length : Int) : Int).toNat ≤ 35184372088832
 case neg => rw [if_neg c4] at H; exact absurd H (by simp)
 rw [if_pos c4] at H
 have c4b0 := eq_true c4
 have c4b1 : decide (((l0_0.length : Int) : Int).toNat ≤ 35184372088832) = true := decide_eq_true c4
 clear c4
 obtain ⟨y102, hy102⟩ : ∃ y_ : List Int, y_ = (List.replicate ((l0_0.length : Int) : Int).toNat 0) := ⟨_, rfl⟩
 replace H : (spec_l06Round.l0 k a1 (([y102] : List (List Int))) (([] : List Int)) 0 l0_0) = some (r1, r2, r3) := zH hy102
 have Ny102 := Aside0.mk hy102
 clear hy102
 obtain ⟨y105, hy105⟩ : ∃ y_ : List (List Int), y_ = (([y102] : List (List Int))) := ⟨_, rfl⟩
 replace H : (spec_l06Round.l0 k a1 y105 (([] : List Int)) 0 l0_0) = some (r1, r2, r3) := zH hy105
 have Ny105 := Aside0.mk hy105
 clear hy105
 obtain ⟨y108, hy108⟩ : ∃ y_ : List Int, y_ = (([] : List Int)) := ⟨_, rfl⟩
 replace H : (spec_l06Round.l0 k a1 y105 y108 0 l0_0) = some (r1, r2, r3) := zH hy108
 have Ny108 := Aside0.mk hy108
 clear hy108
 have H' := Aside0.mk H
 clear H
 go_enter Tryd.func19, Tryd.ntmps19
 go_wp2_with (first | ((with_reducible refine gate_dst (N := 2) rfl ?_); refine box_event zr (N := 2) zr (cs := #[.slice A0_0 l0_0.length c0_0]) (t := 28) zg ?_; intro gb101 hg w5 hbox hb; have n_ := y4 (below_step (zB) hb) (hbox) ((zS hg : w.heap.size ≤ gb101)) ((zS hg : w.heap.size ≤ gb101)); clear HB; obtain ⟨HB, BK101, GW101, GE101⟩ := n_; clear hb hbox hg; have hcz6_0 := zc BK101.out; have hfz6_0 := blk_frozen BK101.out 0) | ((with_reducible refine gate_dst (N := 16) rfl ?_); refine Kd.R_make (Kd.int .i64) _ 2 rfl (N := 16) rfl 22 _ _ rfl (l0_0.length : Int) rfl rfl Tryd.underlying22 (.int .i64 0) 8 info2 rfl (by decide) (by omega) 0 (ok := fun _ => True) (okp := fun _ => True) rfl (fun _ hk => hk) trivial (zD) (Nat.le_trans (Nat.mul_le_mul_right _ (zD : (l0_0.length : Int).toNat ≤ 35184372088832)) (by omega)) (Below.refl _ _) (Nat.le_refl _) ?_; intro v103 w7 ho8 hb hg_ hnew_; clear hg_ hnew_; (first | rw [← Ny102.out] at ho8 | (simp only [Int.reduceToNat] at ho8; rw [← Ny102.out] at ho8)); have n_ := y3 (Kd.R_lower ho8 (below_size (zB))) (zb BK101.out hb) (below_step (zB) hb); clear BK101 HB; obtain ⟨HO104, BK101, HB⟩ := n_; clear hb ho8; obtain ⟨Ao9, co9, eo9⟩ := Kd.R_slice HO104.out; subst eo9) | ((with_reducible refine gate_dst (N := 17) rfl ?_); refine Kd.N_lit (Kd.slice 2 (Kd.int .i64)) _ 22 ?hg (N' := 17) ?hd (xs := ([y102] : List (List Int))) (inner := [.slice Ao9 y102.length co9]) (ok := (fun k_ => k_ ≠ gb101)) (okp := (fun k_ => k_ ≠ gb101)) ?hr ?hp (fun _ hk => hk) ((show ∀ k_, w7.heap.size ≤ k_ → (fun k_ => k_ ≠ gb101) k_ from fun k_ hk => Kd.freshB (g := gb101) (o := .cells #[.slice A0_0 l0_0.length c0_0] 28 (0, 0)) (zG BK101.out) k_ hk) _ (Nat.le_refl _)) (Below.refl _ _) (Nat.le_refl _) (by simp) ?_; (case hd => rfl); (case hg => rfl); (case hr => first | (go_simp; done) | (go_simp; rfl)); (case hp => exact (Reps.one (show Kd.FK (Kd.slice 2 (Kd.int .i64)) _ _ y102 [.slice Ao9 y102.length co9] from (Kd.FK_slice_mk (Kd.R_reads' (Kd.R_mono (ok' := (fun k_ => k_ ≠ gb101)) (Kd.R_types (HO104.out) BK101.out (by decide)) (fun k_ hk => hk.2))).2.1 (Kd.R_F (Kd.R_mono (ok' := (fun k_ => k_ ≠ gb101)) (Kd.R_types (HO104.out) BK101.out (by decide)) (fun k_ hk => hk.2))))) (Reps.none _ _))); intro v106 w10 ho11 hb hg_ hnew_; clear hg_ hnew_; (first | rw [← Ny105.out] at ho11 | (simp only [Int.reduceToNat] at ho11; rw [← Ny105.out] at ho11)); have n_ := y3 (Kd.N_lower ho11 (below_size (zB))) (zb BK101.out hb) (below_step (zB) hb); clear BK101 HB HO104; obtain ⟨HO107, BK101, HB⟩ := n_; clear hb ho11) | ((with_reducible refine gate_dst (N := 18) rfl ?_); refine Kd.R_lit (Kd.int .i64) _ 2 ?hg (N := 18) ?hd (xs := ([] : List Int)) (inner := []) (ok := fun _ => True) (okp := fun _ => True) ?hr ?hp (fun _ hk => hk) trivial (Below.refl _ _) (Nat.le_refl _) (by simp) ?_; (case hd => rfl); (case hg => rfl); (case hr => first | (go_simp; done) | (go_simp; rfl)); (case hp => exact (Reps.none _ _)); intro v109 w12 ho13 hb hg_ hnew_; clear hg_ hnew_; (first | rw [← Ny108.out] at ho13 | (simp only [Int.reduceToNat] at ho13; rw [← Ny108.out] at ho13)); have n_ := y4 (Kd.N_elder' (by (with_reducible repeat (first | apply Kd.N_alloc | apply Kd.N_drewN | apply Kd.N_drew)); exact HO107.out) (Kd.R_base ho13) hb) (Kd.R_lower ho13 (below_size (zB))) (zb BK101.out hb) (below_step (zB) hb); clear HO107 BK101 HB; obtain ⟨HO107, HO110, BK101, HB⟩ := n_; clear hb ho13))
 go_loopg [7, 8, 9] k (fun kq v7 v8 v9 w' => ∃ (x7_1 : List (List Int)) (x8_1 : List Int) (x9_1 : Int), v9 = .int .i64 x9_1 ∧ Aside0 (spec_l06Round.l0 kq a1 x7_1 x8_1 x9_1 l0_0 = some (r1, r2, r3)) ∧ Aside0 (kq ≤ k) ∧ Aside0 (Kd.N (Kd.slice 2 (Kd.int .i64)) 22 w' w.heap.size (fun k_ => some k_ ≠ (v8 : Value).ownBlock ∧ k_ ≠ gb101) v7 x7_1) ∧ Aside0 (Kd.R (Kd.int .i64) 2 w' w.heap.size (fun _ => True) v8 x8_1) ∧ Aside0 (w'.heap[gb101]? = some (.cells #[(.slice A0_0 l0_0.length c0_0)] 28 (0, 0))) ∧ Aside0 (Below w.heap.size w w'))
 case atStart => exact ⟨(y105), (y108), (0), zF, H', ⟨Nat.le_refl _⟩, ⟨by (with_reducible repeat (first | apply Kd.N_alloc | apply Kd.N_drewN | apply Kd.N_drew)); exact Kd.N_mono HO107.out (fun _ hk => ⟨hk.2, hk.1⟩)⟩, ⟨zR HO110.out⟩, ⟨zG BK101.out⟩, ⟨zB⟩⟩
 clear H'
 try clear c3
 try clear c3b0
 try clear c3b1
 try clear c4
 try clear c4b0
 try clear c4b1
 try clear hcz6_0
 try clear hfz6_0
 obtain ⟨x7_1, x8_1, x9_1, rfl, HA, HK1, HO_7, HO_8, BK101, HB⟩ := hrel
 cases gk with
 | zero => exact absurd HA.out (by simp [spec_l06Round.l0])
 | succ k1 =>
   have H := HA.out
   clear HA
   simp only [spec_l06Round.l0] at H
   by_cases c14 : x9_1 < 200
   · rw [if_pos c14] at H
     have c14b0 : decide (x9_1 < 200) = true := decide_eq_true c14
     clear c14
     by_cases c15 : 0 ≤ x9_1
     · rw [if_pos c15] at H
       have c15b0 : decide (0 ≤ x9_1) = true := decide_eq_true c15
       clear c15
       by_cases c16 : x9_1 < (x7_1.length : Int)
       · rw [if_pos c16] at H
         have c16b0 : decide (x9_1 < (x7_1.length : Int)) = true := decide_eq_true c16
         clear c16
         replace H := Option.bind_eq_some_iff.mp H
         obtain ⟨t112, A170, H⟩ := H
         replace H : ((spec_l06Highest.f k1 t112).bind fun t115 => (if a1 > 0 then ((spec_l06Fastest.f k1 l0_0 t112 a1).bind fun t116 => (spec_l06Round.j1 k1 a1 x7_1 x8_1 x9_1 t112 t116 l0_0)) else (spec_l06Round.j1 k1 a1 x7_1 x8_1 x9_1 t112 t115 l0_0))) = some (r1, r2, r3) := H
         have A17 := Aside0.mk A170
         clear A170
         replace H := Option.bind_eq_some_iff.mp H
         obtain ⟨t115, A180, H⟩ := H
         replace H : (if a1 > 0 then ((spec_l06Fastest.f k1 l0_0 t112 a1).bind fun t116 => (spec_l06Round.j1 k1 a1 x7_1 x8_1 x9_1 t112 t116 l0_0)) else (spec_l06Round.j1 k1 a1 x7_1 x8_1 x9_1 t112 t115 l0_0)) = some (r1, r2, r3) := H
         have A18 := Aside0.mk A180
         clear A180
         have HC19 := Aside0.mk H
         clear H
         try go_wp2
         have n_ := y4 (Kd.N_drew HO_7.out) (Kd.R_drew HO_8.out) (blk_drew BK101.out) (below_drew1 HB.out)
         clear HO_7 HO_8 BK101 HB
         obtain ⟨HO_7, HO_8, BK101, HB⟩ := n_
         obtain ⟨Ao21, co21, eo21⟩ := Kd.N_slice HO_7.out
         (first | subst eo21 | (injection eo21 with f1_ f2_ f3_; have f4_ := f1_.symm; have f5_ := f3_.symm; clear f1_ f2_ f3_; subst f4_; subst f5_))
         have p111 : 0 ≤ (x9_1 : Int) := zD
         have q111 : x9_1 < (x7_1.length : Int) := zD
         obtain ⟨ad111, A111_0, c111_0, e111, hx111_0, hl111_0, hi111_0⟩ := at_L1 (Kd.N_reads' HO_7.out).2.2 x9_1 p111 q111
         cases e111
         obtain ⟨ce111, hce111, hMe111, hcc111⟩ := Kd.N_get HO_7.out [] x9_1 p111 (by first | exact q111 | exact zD | (have e_ := (Kd.N_reads' HO_7.out).1; omega))
         obtain ⟨ua111_0, uc111_0, rfl, ul111_0, ge111_0⟩ := Kd.FK_slice_open hMe111
         have hv111_0 := hcc111 0 _ rfl
         rw [Nat.add_zero, show ((Kd.slice 2 (Kd.int .i64))).sz = 1 from rfl, Nat.mul_one] at hv111_0
         replace hv111_0 := Option.some.inj (hv111_0.symm.trans hx111_0)
         injection hv111_0 with hva_ hvn_ hvc_
         rw [hva_] at ge111_0
         rw [hvc_] at ul111_0
         have HL111_0 := Aside0.mk (show Kd.V (Kd.int .i64) 2 _ w.heap.size _ _ (rd_L1 x7_1 x9_1) from Kd.V_mk ul111_0 ge111_0)
         clear hva_ hvn_ hvc_ ge111_0 ul111_0
         clear hcc111 hce111
         have HR111_0 := Aside0.mk hi111_0
         have HC111_0 := Aside0.mk hl111_0
         clear hi111_0 hl111_0
         replace p111 := eq_true p111
         replace q111 := eq_true q111
         refine start_ (n := 7) (S := fun w' => w'.cell? ⟨gb101, 0, none⟩ = some (.slice A0_0 l0_0.length c0_0) ∧ w'.cell? (ad111.add (x9_1).toNat) = some (.slice A111_0 (rd_L1 x7_1 x9_1).length c111_0)) (ds := []) #[false,false,false,false,false,false,false] zk rfl rfl ⟨(blk_cell BK101.out 0).trans rfl, hx111_0⟩ (fun hHeld => ?_)
         generalize wr.drew = w20 at HO_7 HO_8 BK101 HB HL111_0 HR111_0 hx111_0 hHeld ⊢
         refine pure_ (i := 1) (N := some 24) (v := ?_) (a' := ?_) #[false,true,false,false,false,false,false] rfl rfl zk (fun _ _ _ h => h) (Or.inl ⟨by rfl, ?_⟩) ?_ ?_
         rotate_left; exact zp; rotate_left; exact zq
         refine pure_ (i := 2) (N := some 25) (v := ?_) (a' := ?_) #[false,true,true,false,false,false,false] rfl rfl zk (fun _ _ _ h => h) (Or.inl ⟨by rfl, ?_⟩) ?_ ?_
         rotate_left; exact zp; rotate_left; exact zq
         refine pure_ (i := 3) (N := some 26) (v := ?_) (a' := ?_) #[false,true,true,true,false,false,false] rfl rfl zk (fun _ _ _ h => h) (Or.inl ⟨by rfl, ?_⟩) ?_ ?_
         rotate_left; exact zp; rotate_left; exact zq
         refine take_ (i := 0) (N := some 23) (v := ?_) (a' := ?_) #[true,true,true,true,false,false,false] rfl rfl zk (fun _ _ _ h => h) (Or.inl ⟨by rfl, ?_⟩) hHeld ?_ ?_
         rotate_left
         · rintro w' ⟨s0, s1⟩
           go_simp
           with_reducible rfl
         rotate_left
         · simp only [Act.put, List.setIfInBounds_toArray, List.set_cons_zero, List.set_cons_succ, i64_w, i32_w]
           rfl
         refine take_ (i := 4) (N := some 27) (v := ?_) (a' := ?_) #[true,true,true,true,true,false,false] rfl rfl zk (fun _ _ _ h => h) (Or.inl ⟨by rfl, ?_⟩) hHeld ?_ ?_
         rotate_left
         · rintro w' ⟨s0, s1⟩
           go_simp
           with_reducible rfl
         rotate_left
         · simp only [Act.put, List.setIfInBounds_toArray, List.set_cons_zero, List.set_cons_succ, i64_w, i32_w]
           rfl
         refine one_ (i := 5) (N := some 28) #[true,true,true,true,true,true,false] rfl rfl zk (by decide) (fun K hK => ?_)
         refine goes_ Tryd.func26 zk rfl #[.agg #[.slice A0_0 l0_0.length c0_0], .slice A111_0 (rd_L1 x7_1 x9_1).length c111_0, .int .i64 1] (by rfl) rfl rfl zA ?_
         with_reducible refine (spec_l06Grow.calls k1 _ _ l0_0 _ _ (rd_L1 x7_1 x9_1) 1 t112 _ ?side1 ?side2 ?side3 ?side4 A17.out).mono ?_
         (case side1 => exact zC (Kd.C_below HR0_0.out HB.out))
         (case side2 => exact HC0_0.out)
         (case side3 => repeat (first | exact (by repeat (first | (with_reducible exact HR111_0.out) | (with_reducible refine Kd.C_alloc ?_ _) | (with_reducible refine Kd.C_drewN ?_ _) | (with_reducible refine Kd.C_drew ?_) | exact HR111_0.out)) | (with_reducible refine Kd.C_alloc ?_ _) | (with_reducible refine Kd.C_drewN ?_ _) | (with_reducible refine Kd.C_drew ?_)))
         (case side4 => exact HC111_0.out)
         rintro e w22 ⟨v113, rfl, ho0, hb⟩
         have HS1_ := (hb.cell (World.block_lt_of_cell? _ _ (hHeld.2))).trans (hHeld.2)
         refine ⟨_, rfl, ?_⟩
         have n_ := y7 (Kd.N_elder' (by (with_reducible repeat (first | apply Kd.N_alloc | apply Kd.N_drewN | apply Kd.N_drew)); exact HO_7.out) (Kd.R_base ho0) hb) (Kd.R_elder' (zR HO_8.out) (Kd.R_base ho0) hb) (Kd.V_elder' (by (with_reducible repeat (first | apply Kd.V_alloc | apply Kd.V_drewN | apply Kd.V_drew)); exact HL111_0.out) (Kd.R_base ho0) hb) (Kd.R_lower (Kd.R_new' ho0 (Kd.R_lt (zR HO_8.out))) (below_size (zB))) (zb BK101.out hb) (Kd.C_below (by repeat (first | (with_reducible exact HR111_0.out) | (with_reducible refine Kd.C_alloc ?_ _) | (with_reducible refine Kd.C_drewN ?_ _) | (with_reducible refine Kd.C_drew ?_) | exact HR111_0.out)) hb) (below_step (zB) hb)
         clear HO_7 HO_8 HL111_0 BK101 HR111_0 HB
         obtain ⟨HO_7, HO_8, HL111_0, HO114, BK101, HR111_0, HB⟩ := n_
         (try clear hb)
         (try clear hb2)
         (try clear hk)
         (try clear hi)
         (try clear ho0)
         refine hK.out _ _ ⟨(blk_cell BK101.out 0).trans rfl, HS1_⟩ (fun hHeld => ?_)
         clear hK K
         refine norm_ (a' := ?_) ?_ ?_
         rotate_left
         · show Act.put _ (some 28) _ = _
           simp only [Act.put, List.setIfInBounds_toArray, List.set_cons_zero, List.set_cons_succ, i64_w, i32_w]
           rfl
         refine pure_ (i := 6) (N := some 10) (v := ?_) (a' := ?_) #[true,true,true,true,true,true,true] rfl rfl zk (fun _ _ _ h => h) (Or.inl ⟨by rfl, ?_⟩) ?_ ?_
         rotate_left; exact zp; rotate_left; exact zq
         refine done_ zk ?_
         obtain ⟨Ao23, co23, eo23⟩ := Kd.R_slice HO114.out
         subst eo23
         go_upto_if 32 with (first | ((with_reducible refine gate_callee (f := 27) rfl ?_); refine goesL_ (some 30) rfl rfl Tryd.func27 zk rfl #[.slice Ao23 t112.length co23] rfl zA ?_; (with_reducible refine (spec_l06Highest.calls k1 _ _ t112 t115 _ ?side1 ?side2 A18.out).mono ?_); (case side1 => exact zC (Kd.R_reads' HO114.out).2.2); (case side2 => exact (Kd.R_reads' HO114.out).2.1); rintro e w' ⟨rfl, ⟨nd, rfl⟩⟩; refine ⟨_, rfl, ?_⟩))
         (try simp only [Act.put, List.setIfInBounds_toArray, List.set_cons_zero, List.set_cons_succ])
         go_cut [11] (fun v11 wc => ∃ (kq : Nat) (x11_18 : Int), v11 = .int .i64 x11_18 ∧ Aside0 (spec_l06Round.j1 kq a1 x7_1 x8_1 x9_1 t112 x11_18 l0_0 = some (r1, r2, r3)) ∧ Aside0 (kq ≤ k1) ∧ Aside0 (Kd.N (Kd.slice 2 (Kd.int .i64)) 22 wc w.heap.size (fun k_ => some k_ ≠ (u8 : Value).ownBlock ∧ some k_ ≠ ((.slice Ao23 t112.length co23) : Value).ownBlock ∧ k_ ≠ gb101) (.slice (some ad111) x7_1.length co21) x7_1) ∧ Aside0 (Kd.R (Kd.int .i64) 2 wc w.heap.size (fun k_ => some k_ ≠ ((.slice Ao23 t112.length co23) : Value).ownBlock) u8 x8_1) ∧ Aside0 (Kd.R (Kd.int .i64) 2 wc w.heap.size (fun k_ => some k_ ≠ (u8 : Value).ownBlock) (.slice Ao23 t112.length co23) t112) ∧ Aside0 (wc.heap[gb101]? = some (.cells #[(.slice A0_0 l0_0.length c0_0)] 28 (0, 0))) ∧ Aside0 (Kd.C (Kd.int .i64) wc A111_0 (rd_L1 x7_1 x9_1).length (rd_L1 x7_1 x9_1)) ∧ Aside0 (Below w.heap.size w wc))
         case first =>
           have H := HC19.out
           clear HC19
           by_cases c24 : a1 > 0
           · rw [if_pos c24] at H
             have c24b0 : decide (0 < a1) = true := decide_eq_true c24
             clear c24
             (first | rw [c24b0] | (simp only [i64_w, i32_w]; rw [c24b0]) | skip)
             replace H := Option.bind_eq_some_iff.mp H
             obtain ⟨t116, A250, H⟩ := H
             replace H : (spec_l06Round.j1 k1 a1 x7_1 x8_1 x9_1 t112 t116 l0_0) = some (r1, r2, r3) := H
             have A25 := Aside0.mk A250
             clear A250
             have H' := Aside0.mk H
             clear H
             have hcz26_0 := zc BK101.out
             have hfz26_0 := blk_frozen BK101.out 0
             go_wp2_with (first | ((with_reducible refine gate_callee (f := 28) rfl ?_); refine goesL_ (some 36) rfl rfl Tryd.func28 zk rfl #[.agg #[.slice A0_0 l0_0.length c0_0], .slice Ao23 t112.length co23, .int .i64 a1] rfl zA ?_; (with_reducible refine (spec_l06Fastest.calls k1 _ _ l0_0 _ _ t112 a1 t116 _ ?side1 ?side2 ?side3 ?side4 A25.out).mono ?_); (case side1 => exact zC (Kd.C_below HR0_0.out HB.out)); (case side2 => exact HC0_0.out); (case side3 => exact zC (Kd.R_reads' HO114.out).2.2); (case side4 => exact (Kd.R_reads' HO114.out).2.1); rintro e w27 ⟨rfl, hb⟩; refine ⟨_, rfl, ?_⟩; have n_ := y7 (Kd.N_below (by (with_reducible repeat (first | apply Kd.N_alloc | apply Kd.N_drewN | apply Kd.N_drew)); exact HO_7.out) hb) (Kd.R_below (zR HO_8.out) hb) (Kd.V_below (by (with_reducible repeat (first | apply Kd.V_alloc | apply Kd.V_drewN | apply Kd.V_drew)); exact HL111_0.out) hb) (Kd.R_below (zR HO114.out) hb) (zb BK101.out hb) (Kd.C_below (by repeat (first | (with_reducible exact HR111_0.out) | (with_reducible refine Kd.C_alloc ?_ _) | (with_reducible refine Kd.C_drewN ?_ _) | (with_reducible refine Kd.C_drew ?_) | exact HR111_0.out)) hb) (below_step (zB) hb); clear HO_7 HO_8 HL111_0 HO114 BK101 HR111_0 HB; obtain ⟨HO_7, HO_8, HL111_0, HO114, BK101, HR111_0, HB⟩ := n_; (try clear hb); (try clear hb2); (try clear hk); (try clear hi)))
             go_meet
             case rel => exact ⟨_, (t116), zF, H', ⟨by have := HK1.out; first | omega | exact Nat.le_refl _⟩, ⟨by (with_reducible repeat (first | apply Kd.N_alloc | apply Kd.N_drewN | apply Kd.N_drew)); exact Kd.N_mono HO_7.out (fun _ hk => ⟨hk.1.1, ⟨hk.2, hk.1.2⟩⟩)⟩, ⟨by refine zR ?_; exact Kd.R_mono HO_8.out (fun _ hk => hk.2)⟩, ⟨by refine zR ?_; exact Kd.R_mono HO114.out (fun _ hk => hk.2)⟩, ⟨zG BK101.out⟩, ⟨by repeat (first | (with_reducible exact HR111_0.out) | (with_reducible refine Kd.C_alloc ?_ _) | (with_reducible refine Kd.C_drewN ?_ _) | (with_reducible refine Kd.C_drew ?_) | exact HR111_0.out)⟩, ⟨zB⟩⟩
           · rw [if_neg c24] at H
             have c24b0 : decide (0 < a1) = false := decide_eq_false c24
             clear c24
             (first | rw [c24b0] | (simp only [i64_w, i32_w]; rw [c24b0]) | skip)
             have H' := Aside0.mk H
             clear H
             go_wp2
             go_meet
             case rel => exact ⟨_, (t115), zF, H', ⟨by have := HK1.out; first | omega | exact Nat.le_refl _⟩, ⟨by (with_reducible repeat (first | apply Kd.N_alloc | apply Kd.N_drewN | apply Kd.N_drew)); exact Kd.N_mono HO_7.out (fun _ hk => ⟨hk.1.1, ⟨hk.2, hk.1.2⟩⟩)⟩, ⟨by refine zR ?_; exact Kd.R_mono HO_8.out (fun _ hk => hk.2)⟩, ⟨by refine zR ?_; exact Kd.R_mono HO114.out (fun _ hk => hk.2)⟩, ⟨zG BK101.out⟩, ⟨by repeat (first | (with_reducible exact HR111_0.out) | (with_reducible refine Kd.C_alloc ?_ _) | (with_reducible refine Kd.C_drewN ?_ _) | (with_reducible refine Kd.C_drew ?_) | exact HR111_0.out)⟩, ⟨zB⟩⟩
         case rest =>
           clear HC19
           try clear c3
           try clear c3b0
           try clear c3b1
           try clear c4
           try clear c4b0
           try clear c4b1
           try clear c14
           try clear c14b0
           try clear c15
           try clear c15b0
           try clear c16
           try clear c16b0
           try clear hcz6_0
           try clear hfz6_0
           try clear hx111_0
           try clear p111
           try clear q111
           obtain ⟨kq, x11_18, rfl, HA, HJ18, HO_7, HO_8, HO_10, BK101, HR111_0, HB⟩ := hcut
           cases kq with
           | zero => exact absurd HA.out (by simp [spec_l06Round.j1])
           | succ kj18 =>
             have H := HA.out
             clear HA
             simp only [spec_l06Round.j1] at H
             have HC28 := Aside0.mk H
             clear H
             go_upto_if 38 with (fail)
             go_cut [] (fun wc => ∃ (kq : Nat) (x10_27 : List Int), Aside0 (spec_l06Round.j2 kq a1 x7_1 x8_1 x9_1 x10_27 x11_18 l0_0 = some (r1, r2, r3)) ∧ Aside0 (kq ≤ kj18) ∧ Aside0 (Kd.N (Kd.slice 2 (Kd.int .i64)) 22 wc w.heap.size (fun k_ => some k_ ≠ (u8 : Value).ownBlock ∧ some k_ ≠ ((.slice Ao23 t112.length co23) : Value).ownBlock ∧ k_ ≠ gb101) (.slice (some ad111) x7_1.length co21) x7_1) ∧ Aside0 (Kd.R (Kd.int .i64) 2 wc w.heap.size (fun k_ => some k_ ≠ ((.slice Ao23 t112.length co23) : Value).ownBlock) u8 x8_1) ∧ Aside0 (Kd.R (Kd.int .i64) 2 wc w.heap.size (fun k_ => some k_ ≠ (u8 : Value).ownBlock) (.slice Ao23 t112.length co23) x10_27) ∧ Aside0 (wc.heap[gb101]? = some (.cells #[(.slice A0_0 l0_0.length c0_0)] 28 (0, 0))) ∧ Aside0 (Below w.heap.size w wc))
             case first =>
               have H := HC28.out
               clear HC28
               by_cases c29 : x11_18 ≥ 0
               · rw [if_pos c29] at H
                 have c29b0 : decide (0 ≤ x11_18) = true := decide_eq_true c29
                 clear c29
                 (first | rw [c29b0] | (simp only [i64_w, i32_w]; rw [c29b0]) | skip)
                 by_cases c30 : 0 ≤ x11_18
                 · rw [if_pos c30] at H
                   have c30b0 : decide (0 ≤ x11_18) = true := decide_eq_true c30
                   clear c30
                   by_cases c31 : x11_18 < (t112.length : Int)
                   · rw [if_pos c31] at H
                     have c31b0 : decide (x11_18 < (t112.length : Int)) = true := decide_eq_true c31
                     clear c31
                     obtain ⟨y117, hy117⟩ : ∃ y_ : List Int, y_ = (t112.set (x11_18 : Int).toNat 0) := ⟨_, rfl⟩
                     replace H : (spec_l06Round.j2 kj18 a1 x7_1 x8_1 x9_1 y117 x11_18 l0_0) = some (r1, r2, r3) := zH hy117
                     have Ny117 := Aside0.mk hy117
                     clear hy117
                     have H' := Aside0.mk H
                     clear H
                     have p32 : 0 ≤ (x11_18 : Int) := zD
                     have q32 : (x11_18 : Int) < ((t112.length : Int) : Int) := zD
                     obtain ⟨go32, co32, eo32, gb32, gl32, cl32, HG32⟩ := Kd.R_form HO_10.out (by omega)
                     (first | cases eo32 | (injection eo32 with ea_ en_ ec_; (first | subst ea_ | (injection ea_ with ea_; subst ea_)); subst ec_; clear en_))
                     have GB32 := Aside0.mk gb32
                     have GG32 := Aside0.mk HG32
                     clear gb32 gl32 HG32
                     obtain ⟨hx32_0, hf32_0⟩ := Kd.R_celln 0 HO_10.out (x11_18 : Int) p32 q32
                     replace p32 := eq_true p32
                     replace q32 := eq_true q32
                     have HP33 := Kd.R_putg HO_10.out (x11_18 : Int) 0
                     go_wp2_with (first | ((with_reducible refine gate_store (t := 2) (p := 41) rfl ?_); refine store_event (t := 2) (p := 41) (v := ?vo_w34) (w1 := (wc.setCell ⟨go32, (x11_18 : Int).toNat, none⟩ (.int .i64 0))) ?hg ?ho ?hn ?hr ?_; (case ho => rfl); (case hg => rfl); (case hn => rfl); (case hr => first | (go_simp; done) | (go_simp; rfl)); intro w34 hw; have hg : wc.grownBy w34 (some go32) := (by rw [hw]; exact HP33.2); have hp_ : Kd.R (Kd.int .i64) 2 w34 w.heap.size (fun k_ => some k_ ≠ (u8 : Value).ownBlock) (.slice (some ⟨go32, 0, none⟩) t112.length co23) y117 := (by rw [hw, Ny117.out]; exact HP33.1); clear HP33; have n_ := y5 (Kd.N_afterv (v := (.slice (some ⟨go32, 0, none⟩) t112.length co23)) (v1 := (.slice (some ⟨go32, 0, none⟩) t112.length co23)) (ok := (fun k_ => some k_ ≠ (u8 : Value).ownBlock ∧ k_ ≠ gb101)) (by (with_reducible repeat (first | apply Kd.N_alloc | apply Kd.N_drewN | apply Kd.N_drew)); exact Kd.N_mono HO_7.out (fun _ hk => ⟨⟨hk.1, hk.2.2⟩, hk.2.1⟩)) hg (.inl rfl)) (Kd.R_after (v := (.slice (some ⟨go32, 0, none⟩) t112.length co23)) (v1 := (.slice (some ⟨go32, 0, none⟩) t112.length co23)) (ok := (fun _ => True)) (by refine zR ?_; exact Kd.R_mono HO_8.out (fun _ hk => ⟨trivial, hk⟩)) hg (.inl rfl)) (hp_) (blk_grown (g := gb101) (o := .cells #[.slice A0_0 l0_0.length c0_0] 28 (0, 0)) (zG BK101.out) hg (Kd.R_ne HO_10.out BK101.out (by decide))) ((by rw [hw]; exact below_set (HB.out) GB32.out : Below w.heap.size w w34)); clear HO_7 HO_8 HO_10 BK101 HB; obtain ⟨HO_7, HO_8, HO_10, BK101, HB⟩ := n_; clear hg hw hp_))
                     go_meet
                     case rel => exact ⟨_, (y117), H', ⟨by have := HK1.out; have := HJ18.out; first | omega | exact Nat.le_refl _⟩, ⟨by (with_reducible repeat (first | apply Kd.N_alloc | apply Kd.N_drewN | apply Kd.N_drew)); exact Kd.N_mono HO_7.out (fun _ hk => ⟨hk.1.1, ⟨hk.2, hk.1.2⟩⟩)⟩, ⟨by refine zR ?_; exact Kd.R_mono HO_8.out (fun _ hk => hk.2)⟩, ⟨zR HO_10.out⟩, ⟨zG BK101.out⟩, ⟨zB⟩⟩
                   · rw [if_neg c31] at H
                     exact absurd H (by simp)
                 · rw [if_neg c30] at H
                   exact absurd H (by simp)
               · rw [if_neg c29] at H
                 have c29b0 : decide (0 ≤ x11_18) = false := decide_eq_false c29
                 clear c29
                 (first | rw [c29b0] | (simp only [i64_w, i32_w]; rw [c29b0]) | skip)
                 have H' := Aside0.mk H
                 clear H
                 go_wp2
                 go_meet
                 case rel => exact ⟨_, (t112), H', ⟨by have := HK1.out; have := HJ18.out; first | omega | exact Nat.le_refl _⟩, ⟨by (with_reducible repeat (first | apply Kd.N_alloc | apply Kd.N_drewN | apply Kd.N_drew)); exact HO_7.out⟩, ⟨zR HO_8.out⟩, ⟨zR HO_10.out⟩, ⟨zG BK101.out⟩, ⟨zB⟩⟩
             case rest =>
               clear HC28
               try clear c3
               try clear c3b0
               try clear c3b1
               try clear c4
               try clear c4b0
               try clear c4b1
               try clear c14
               try clear c14b0
               try clear c15
               try clear c15b0
               try clear c16
               try clear c16b0
               try clear hcz6_0
               try clear hfz6_0
               try clear hx111_0
               try clear p111
               try clear q111
               obtain ⟨kq, x10_27, HA, HJ27, HO_7, HO_8, HO_10, BK101, HB⟩ := hcut
               have hl10_27 := (Kd.R_reads' HO_10.out).1
               rw [hl10_27] at HO_10
               (try simp only [hl10_27])
               (try simp only [hl10_27] at BK101)
               (try simp only [hl10_27] at HO_7)
               (try simp only [hl10_27] at HO_8)
               cases kq with
               | zero => exact absurd HA.out (by simp [spec_l06Round.j2])
               | succ kj27 =>
                 have H := HA.out
                 clear HA
                 simp only [spec_l06Round.j2] at H
                 by_cases c35 : x8_1.length < 17592186044416
                 · rw [if_pos c35] at H
                   have LMc35 := Aside0.mk c35
                   clear c35
                   obtain ⟨y118, hy118⟩ : ∃ y_ : List Int, y_ = (x8_1 ++ [x11_18]) := ⟨_, rfl⟩
                   replace H : (spec_l06Round.l1 kj27 a1 x7_1 y118 x9_1 x10_27 0 l0_0) = some (r1, r2, r3) := zH hy118
                   have Ny118 := Aside0.mk hy118
                   clear hy118
                   have H' := Aside0.mk H
                   clear H
                   go_wp2_with (first | ((with_reducible refine gate_builtin (b := .append) (xs := #[.tmp 42, .tmp 44]) rfl ?_); at_builtin; refine Kd.R_append (Kd.int .i64) (w0 := w) w.heap.size rfl (.tmp 42) (.tmp 44) 22 2 (.int .i64 0) 8 rfl Tryd.underlying22 info2 rfl (by decide) (by omega) u8 x8_1 x11_18 [.int .i64 x11_18] (fun k_ => some k_ ≠ (.slice Ao23 x10_27.length co23 : Value).ownBlock) (fun _ => False) rfl rfl ?aP (fun _ hk => hk.elim) ?aF ?aO ?aB ?aS ?aL ?_; (case aP => exact rfl); (case aB => exact (zB)); (case aF => exact (fun k_ hk => Kd.fresh' (Kd.R_lt (zR HO_10.out)) k_ hk)); (case aO => exact (zR HO_8.out)); (case aS => exact (below_size (zB))); (case aL => have := LMc35.out; omega); intro v119 w36 ho hb hg hat; rw [← Ny118.out] at ho; have n_ := y5 (Kd.N_afterv (ok := (fun k_ => some k_ ≠ (.slice Ao23 x10_27.length co23 : Value).ownBlock ∧ k_ ≠ gb101)) (by (with_reducible repeat (first | apply Kd.N_alloc | apply Kd.N_drewN | apply Kd.N_drew)); exact Kd.N_mono HO_7.out (fun _ hk => ⟨⟨hk.2.1, hk.2.2⟩, hk.1⟩)) hg hat) (Kd.R_after (ok := (fun _ => True)) (by refine zR ?_; exact Kd.R_mono HO_10.out (fun _ hk => ⟨trivial, hk⟩)) hg hat) (blk_grown (g := gb101) (o := .cells #[.slice A0_0 l0_0.length c0_0] 28 (0, 0)) (zG BK101.out) hg (Kd.R_ne HO_8.out BK101.out (by decide))) (hb) (ho); clear HO_7 HO_10 BK101 HB HO_8; obtain ⟨HO_7, HO_10, BK101, HB, HO120⟩ := n_; clear ho hb hg hat))
                   go_loopg [12] kj27 (fun kq v12 w' => ∃ (x12_4 : Int), v12 = .int .i64 x12_4 ∧ Aside0 (spec_l06Round.l1 kq a1 x7_1 y118 x9_1 x10_27 x12_4 l0_0 = some (r1, r2, r3)) ∧ Aside0 (kq ≤ kj27) ∧ Aside0 (Kd.N (Kd.slice 2 (Kd.int .i64)) 22 w' w.heap.size (fun k_ => some k_ ≠ (v119 : Value).ownBlock ∧ some k_ ≠ ((.slice Ao23 x10_27.length co23) : Value).ownBlock ∧ k_ ≠ gb101) (.slice (some ad111) x7_1.length co21) x7_1) ∧ Aside0 (Kd.R (Kd.int .i64) 2 w' w.heap.size (fun k_ => some k_ ≠ ((.slice Ao23 x10_27.length co23) : Value).ownBlock) v119 y118) ∧ Aside0 (Kd.R (Kd.int .i64) 2 w' w.heap.size (fun k_ => some k_ ≠ (v119 : Value).ownBlock) (.slice Ao23 x10_27.length co23) x10_27) ∧ Aside0 (w'.heap[gb101]? = some (.cells #[(.slice A0_0 l0_0.length c0_0)] 28 (0, 0))) ∧ Aside0 (Below w.heap.size w w'))
                   case atStart => exact ⟨(0), zF, H', ⟨Nat.le_refl _⟩, ⟨by (try simp only [hl10_27]); (with_reducible repeat (first | apply Kd.N_alloc | apply Kd.N_drewN | apply Kd.N_drew)); exact Kd.N_mono HO_7.out (fun _ hk => ⟨hk.2, ⟨hk.1.1, hk.1.2⟩⟩)⟩, ⟨by (try simp only [hl10_27]); refine zR ?_; exact HO120.out⟩, ⟨by (try simp only [hl10_27]); refine zR ?_; exact Kd.R_mono HO_10.out (fun _ hk => hk.2)⟩, ⟨by (try simp only [hl10_27]); refine zG ?_; exact BK101.out⟩, ⟨zB⟩⟩
                   case round =>
                     clear H'
                     try clear c3
                     try clear c3b0
                     try clear c3b1
                     try clear c4
                     try clear c4b0
                     try clear c4b1
                     try clear c14
                     try clear c14b0
                     try clear c15
                     try clear c15b0
                     try clear c16
                     try clear c16b0
                     try clear c35
                     try clear hcz6_0
                     try clear hfz6_0
                     try clear hx111_0
                     try clear p111
                     try clear q111
                     obtain ⟨x12_4, rfl, HA, HK4, HO_7, HO_8, HO_10, BK101, HB⟩ := hrel
                     cases gk with
                     | zero => exact absurd HA.out (by simp [spec_l06Round.l1])
                     | succ k4 =>
                       have H := HA.out
                       clear HA
                       simp only [spec_l06Round.l1] at H
                       by_cases c37 : x12_4 ≤ x9_1
                       · rw [if_pos c37] at H
                         have c37b0 : decide (x12_4 ≤ x9_1) = true := decide_eq_true c37
                         clear c37
                         by_cases c38 : 0 ≤ x12_4
                         · rw [if_pos c38] at H
                           have c38b0 : decide (0 ≤ x12_4) = true := decide_eq_true c38
                           clear c38
                           by_cases c39 : x12_4 < (x7_1.length : Int)
                           · rw [if_pos c39] at H
                             have c39b0 : decide (x12_4 < (x7_1.length : Int)) = true := decide_eq_true c39
                             clear c39
                             replace H := Option.bind_eq_some_iff.mp H
                             obtain ⟨t125, A400, H⟩ := H
                             replace H : (if t125 = true then (if x12_4 ≤ (y118.length : Int) then ((spec_l01Own.f (y118.drop (x12_4 : Int).toNat)).bind fun t131 => (some (t131, x12_4, true))) else (none)) else (spec_l06Round.l1 k4 a1 x7_1 y118 x9_1 x10_27 (wrap64 (x12_4 + 1)) l0_0)) = some (r1, r2, r3) := H
                             have A40 := Aside0.mk A400
                             clear A400
                             by_cases c41 : t125 = true
                             · subst c41
                               have H1 : (if x12_4 ≤ (y118.length : Int) then ((spec_l01Own.f (y118.drop (x12_4 : Int).toNat)).bind fun t131 => (some (t131, x12_4, true))) else (none)) = some (r1, r2, r3) := by rw [if_pos rfl] at H; exact H
                               clear H
                               have H := H1
                               clear H1
                               have c42b0 := eq_true (zD : 0 ≤ x12_4)
                               by_cases c43 : x12_4 ≤ (y118.length : Int)
                               · rw [if_pos c43] at H
                                 have c43b0 := eq_true c43
                                 have c43b1 : decide (x12_4 ≤ (y118.length : Int)) = true := decide_eq_true c43
                                 clear c43
                                 obtain ⟨y126, hy126⟩ : ∃ y_ : List Int, y_ = (y118.drop (x12_4 : Int).toNat) := ⟨_, rfl⟩
                                 replace H : ((spec_l01Own.f y126).bind fun t131 => (some (t131, x12_4, true))) = some (r1, r2, r3) := zH hy126
                                 have Ny126 := Aside0.mk hy126
                                 clear hy126
                                 replace H := Option.bind_eq_some_iff.mp H
                                 obtain ⟨t131, A440, H⟩ := H
                                 replace H : (some (t131, x12_4, true)) = some (r1, r2, r3) := H
                                 have A44 := Aside0.mk A440
                                 clear A440
                                 simp only [Option.some.injEq, Prod.mk.injEq] at H
                                 obtain ⟨rfl, rfl, rfl⟩ := H
                                 have p124 : 0 ≤ (x12_4 : Int) := zD
                                 have q124 : x12_4 < (x7_1.length : Int) := zD
                                 obtain ⟨ad124, A124_0, c124_0, e124, hx124_0, hl124_0, hi124_0⟩ := at_L1 (Kd.N_reads' HO_7.out).2.2 x12_4 p124 q124
                                 obtain rfl : ad111 = ad124 := (by injection e124)
                                 obtain ⟨ce124, hce124, hMe124, hcc124⟩ := Kd.N_get HO_7.out [] x12_4 p124 (by first | exact q124 | exact zD | (have e_ := (Kd.N_reads' HO_7.out).1; omega))
                                 obtain ⟨ua124_0, uc124_0, rfl, ul124_0, ge124_0⟩ := Kd.FK_slice_open hMe124
                                 have hv124_0 := hcc124 0 _ rfl
                                 rw [Nat.add_zero, show ((Kd.slice 2 (Kd.int .i64))).sz = 1 from rfl, Nat.mul_one] at hv124_0
                                 replace hv124_0 := Option.some.inj (hv124_0.symm.trans hx124_0)
                                 injection hv124_0 with hva_ hvn_ hvc_
                                 rw [hva_] at ge124_0
                                 rw [hvc_] at ul124_0
                                 have HL124_0 := Aside0.mk (show Kd.V (Kd.int .i64) 2 _ w.heap.size _ _ (rd_L1 x7_1 x12_4) from Kd.V_mk ul124_0 ge124_0)
                                 clear hva_ hvn_ hvc_ ge124_0 ul124_0
                                 clear hcc124 hce124
                                 have HR124_0 := Aside0.mk hi124_0
                                 have HC124_0 := Aside0.mk hl124_0
                                 clear hi124_0 hl124_0
                                 replace p124 := eq_true p124
                                 replace q124 := eq_true q124
                                 go_wp2_with (first | ((with_reducible refine gate_callee (f := 29) rfl ?_); refine goesL_ (some 56) rfl rfl Tryd.func29 zk rfl #[.slice A124_0 (rd_L1 x7_1 x12_4).length c124_0, .slice Ao23 x10_27.length co23] rfl zA ?_; (with_reducible refine (spec_l06Same.calls k4 _ _ (rd_L1 x7_1 x12_4) _ _ x10_27 true _ ?side1 ?side2 ?side3 ?side4 A40.out).mono ?_); (case side1 => repeat (first | exact (by repeat (first | (with_reducible exact HR124_0.out) | (with_reducible refine Kd.C_alloc ?_ _) | (with_reducible refine Kd.C_drewN ?_ _) | (with_reducible refine Kd.C_drew ?_) | exact HR124_0.out)) | (with_reducible refine Kd.C_alloc ?_ _) | (with_reducible refine Kd.C_drewN ?_ _) | (with_reducible refine Kd.C_drew ?_))); (case side2 => exact HC124_0.out); (case side3 => exact zC (Kd.R_reads' HO_10.out).2.2); (case side4 => exact (Kd.R_reads' HO_10.out).2.1); rintro e w' ⟨rfl, ⟨nd, rfl⟩⟩; refine ⟨_, rfl, ?_⟩; obtain ⟨Ao46, co46, eo46⟩ := Kd.R_slice HO_8.out; subst eo46; have q45 : (x12_4 : Int) ≤ ((y118.length : Int) : Int) := zD; obtain ⟨i045, hi045, _, hsz45, _⟩ := info_parts info2; have hroom45 : y118.length ≤ co46 := (Kd.R_reads' HO_8.out).2.1; have hC45 : Kd.F (Kd.int .i64) _ _ Ao46 y118.length y118 := (Kd.V_at (base := w.heap.size) (Kd.R_V (Kd.R_types (Kd.R_apart' (HO_8.out) (Kd.N_typed HO_7.out) (by decide)) BK101.out (by decide)))).2.2; have q045 : (0 : Int) ≤ (x12_4 : Int) := zD; have hcut45 := cut_from (P := Tryd.prog) 22 2 .i64 Tryd.underlying22 hi045 1 hsz45 Ao46 y118.length co46 x12_4 q045 q45; have hr45 := Kd.F_cut (m := (x12_4 : Int).toNat) (c := co46) hC45 (by omega) hroom45; obtain ⟨A45, hA45⟩ : ∃ A1, A1 = (if co46 = (x12_4 : Int).toNat then Ao46 else (Ao46 : Option Addr).map (·.add ((x12_4 : Int).toNat * 1))) := ⟨_, rfl⟩; obtain ⟨c45, hc45⟩ : ∃ c1, c1 = co46 - (x12_4 : Int).toNat := ⟨_, rfl⟩; have hy45 : y126.length = y118.length - (x12_4 : Int).toNat := (by rw [Ny126.out, List.length_drop] <;> omega); rw [show (y118).drop (x12_4 : Int).toNat = y126 from Ny126.out.symm] at hr45; replace hr45 : Kd.F (Kd.int .i64) _ _ A45 y126.length y126 := (by rw [hA45]; exact hr45); rw [← hy45, ← hA45, ← hc45] at hcut45; have HO130 := Aside0.mk (show Kd.V (Kd.int .i64) 2 _ w.heap.size _ (.slice A45 y126.length c45) y126 from Kd.V_mk (by rw [hy45, hc45]; exact Nat.sub_le_sub_right hroom45 _) hr45); have HC130 := Aside0.mk (show y126.length ≤ c45 from by rw [hy45, hc45]; exact Nat.sub_le_sub_right hroom45 _); clear hr45 hC45 hroom45 hi045 hsz45 hc45; have KY45 := Aside0.mk hy45; have KA45 := Aside0.mk hA45; clear hy45 hA45; replace q45 := eq_true q45) | ((with_reducible refine gate_callee (f := 30) rfl ?_); refine goesL_ (some 60) rfl rfl Tryd.func30 zk rfl #[.slice A45 y126.length c45] rfl zA ?_; (with_reducible refine (spec_l01Own.calls _ _ y126 t131 _ ?side1 ?side2 A44.out).mono ?_); (case side1 => exact zC (Kd.V_reads' HO130.out).2.2); (case side2 => exact (Kd.V_reads' HO130.out).2.1); rintro e w47 ⟨v132, rfl, ho0, hb⟩; refine ⟨_, rfl, ?_⟩; have n_ := y9 (Kd.N_elder' (by (with_reducible repeat (first | apply Kd.N_alloc | apply Kd.N_drewN | apply Kd.N_drew)); exact HO_7.out) (Kd.R_base ho0) hb) (Kd.R_elder' (zR HO_8.out) (Kd.R_base ho0) hb) (Kd.R_elder' (zR HO_10.out) (Kd.R_base ho0) hb) (Kd.V_elder' (by (with_reducible repeat (first | apply Kd.V_alloc | apply Kd.V_drewN | apply Kd.V_drew)); exact HL124_0.out) (Kd.R_base ho0) hb) (Kd.V_elder' (by (with_reducible repeat (first | apply Kd.V_alloc | apply Kd.V_drewN | apply Kd.V_drew)); exact HO130.out) (Kd.R_base ho0) hb) (Kd.R_lower (Kd.R_new' (Kd.R_new' ho0 (Kd.R_lt (zR HO_8.out))) (Kd.R_lt (zR HO_10.out))) (below_size (zB))) (zb BK101.out hb) (Kd.C_below (by repeat (first | (with_reducible exact HR124_0.out) | (with_reducible refine Kd.C_alloc ?_ _) | (with_reducible refine Kd.C_drewN ?_ _) | (with_reducible refine Kd.C_drew ?_) | exact HR124_0.out)) hb) (below_step (zB) hb); clear HO_7 HO_8 HO_10 HL124_0 HO130 BK101 HR124_0 HB; obtain ⟨HO_7, HO_8, HO_10, HL124_0, HO130, HO133, BK101, HR124_0, HB⟩ := n_; (try clear hb); (try clear hb2); (try clear hk); (try clear hi); (try clear ho0)))
                                 go_ret3
                                 exact ⟨_, zE, by refine zR ?_; exact Kd.R_mono HO133.out (fun _ hk => trivial), zB⟩
                               · rw [if_neg c43] at H
                                 exact absurd H (by simp)
                             · replace c41 := Bool.eq_false_iff.mpr c41
                               subst c41
                               have H1 : (spec_l06Round.l1 k4 a1 x7_1 y118 x9_1 x10_27 (wrap64 (x12_4 + 1)) l0_0) = some (r1, r2, r3) := by rw [if_neg (show ¬ (false = true) by decide)] at H; exact H
                               clear H
                               have H := H1
                               clear H1
                               have H' := Aside0.mk H
                               clear H
                               have p124 : 0 ≤ (x12_4 : Int) := zD
                               have q124 : x12_4 < (x7_1.length : Int) := zD
                               obtain ⟨ad124, A124_0, c124_0, e124, hx124_0, hl124_0, hi124_0⟩ := at_L1 (Kd.N_reads' HO_7.out).2.2 x12_4 p124 q124
                               obtain rfl : ad111 = ad124 := (by injection e124)
                               obtain ⟨ce124, hce124, hMe124, hcc124⟩ := Kd.N_get HO_7.out [] x12_4 p124 (by first | exact q124 | exact zD | (have e_ := (Kd.N_reads' HO_7.out).1; omega))
                               obtain ⟨ua124_0, uc124_0, rfl, ul124_0, ge124_0⟩ := Kd.FK_slice_open hMe124
                               have hv124_0 := hcc124 0 _ rfl
                               rw [Nat.add_zero, show ((Kd.slice 2 (Kd.int .i64))).sz = 1 from rfl, Nat.mul_one] at hv124_0
                               replace hv124_0 := Option.some.inj (hv124_0.symm.trans hx124_0)
                               injection hv124_0 with hva_ hvn_ hvc_
                               rw [hva_] at ge124_0
                               rw [hvc_] at ul124_0
                               have HL124_0 := Aside0.mk (show Kd.V (Kd.int .i64) 2 _ w.heap.size _ _ (rd_L1 x7_1 x12_4) from Kd.V_mk ul124_0 ge124_0)
                               clear hva_ hvn_ hvc_ ge124_0 ul124_0
                               clear hcc124 hce124
                               have HR124_0 := Aside0.mk hi124_0
                               have HC124_0 := Aside0.mk hl124_0
                               clear hi124_0 hl124_0
                               replace p124 := eq_true p124
                               replace q124 := eq_true q124
                               go_wp2_with (first | ((with_reducible refine gate_callee (f := 29) rfl ?_); refine goesL_ (some 56) rfl rfl Tryd.func29 zk rfl #[.slice A124_0 (rd_L1 x7_1 x12_4).length c124_0, .slice Ao23 x10_27.length co23] rfl zA ?_; (with_reducible refine (spec_l06Same.calls k4 _ _ (rd_L1 x7_1 x12_4) _ _ x10_27 false _ ?side1 ?side2 ?side3 ?side4 A40.out).mono ?_); (case side1 => repeat (first | exact (by repeat (first | (with_reducible exact HR124_0.out) | (with_reducible refine Kd.C_alloc ?_ _) | (with_reducible refine Kd.C_drewN ?_ _) | (with_reducible refine Kd.C_drew ?_) | exact HR124_0.out)) | (with_reducible refine Kd.C_alloc ?_ _) | (with_reducible refine Kd.C_drewN ?_ _) | (with_reducible refine Kd.C_drew ?_))); (case side2 => exact HC124_0.out); (case side3 => exact zC (Kd.R_reads' HO_10.out).2.2); (case side4 => exact (Kd.R_reads' HO_10.out).2.1); rintro e w' ⟨rfl, ⟨nd, rfl⟩⟩; refine ⟨_, rfl, ?_⟩))
                               go_roundg k4
                               case measure => have := HK1.out; have := HJ18.out; have := HJ27.out; have := HK4.out; omega
                               case rel => exact ⟨(wrap64 (x12_4 + 1)), zF, H', ⟨by have := HK1.out; have := HJ18.out; have := HJ27.out; have := HK4.out; omega⟩, ⟨by (try simp only [hl10_27]); (with_reducible repeat (first | apply Kd.N_alloc | apply Kd.N_drewN | apply Kd.N_drew)); exact HO_7.out⟩, ⟨by (try simp only [hl10_27]); refine zR ?_; exact HO_8.out⟩, ⟨by (try simp only [hl10_27]); refine zR ?_; exact HO_10.out⟩, ⟨by (try simp only [hl10_27]); refine zG ?_; exact BK101.out⟩, ⟨zB⟩⟩
                           · rw [if_neg c39] at H
                             exact absurd H (by simp)
                         · rw [if_neg c38] at H
                           exact absurd H (by simp)
                       · rw [if_neg c37] at H
                         have c37b0 : decide (x12_4 ≤ x9_1) = false := decide_eq_false c37
                         clear c37
                         by_cases c48 : x7_1.length < 5864062014805
                         · rw [if_pos c48] at H
                           have LMc48 := Aside0.mk c48
                           clear c48
                           obtain ⟨y121, hy121⟩ : ∃ y_ : List (List Int), y_ = (x7_1 ++ [x10_27]) := ⟨_, rfl⟩
                           replace H : (spec_l06Round.l0 k4 a1 y121 y118 (wrap64 (x9_1 + 1)) l0_0) = some (r1, r2, r3) := zH hy121
                           have Ny121 := Aside0.mk hy121
                           clear hy121
                           have H' := Aside0.mk H
                           clear H
                           go_wp2_with (first | ((with_reducible refine gate_builtin (b := .append) (xs := #[.tmp 62, .tmp 64]) rfl ?_); at_builtin; refine Kd.N_append (Kd.slice 2 (Kd.int .i64)) (w0 := w) w.heap.size rfl (.tmp 62) (.tmp 64) 48 22 (.slice none 0 0) 24 rfl Tryd.underlying48 info22 rfl (by decide) (by omega) (.slice (some ad111) x7_1.length co21) x7_1 x10_27 [.slice Ao23 x10_27.length co23] (fun k_ => some k_ ≠ (v119 : Value).ownBlock ∧ k_ ≠ gb101) (fun k_ => ((fun k_ => some k_ ≠ (v119 : Value).ownBlock ∧ k_ ≠ gb101)) k_ ∧ some k_ ≠ (.slice (some ad111) x7_1.length co21 : Value).ownBlock) rfl rfl ?aP (fun _ hk => hk) ?aF ?aO ?aB ?aS ?aL ?_; (case aP => exact (Kd.FK_slice_mk (Kd.R_reads' (Kd.R_mono (ok' := (fun k_ => ((fun k_ => some k_ ≠ (v119 : Value).ownBlock ∧ k_ ≠ gb101)) k_ ∧ some k_ ≠ (.slice (some ad111) x7_1.length co21 : Value).ownBlock)) (Kd.R_types (Kd.R_apart' (HO_10.out) (Kd.N_typed HO_7.out) (by decide)) BK101.out (by decide)) (fun k_ hk => ⟨⟨hk.1.1, hk.2⟩, hk.1.2⟩))).2.1 (Kd.R_F (Kd.R_mono (ok' := (fun k_ => ((fun k_ => some k_ ≠ (v119 : Value).ownBlock ∧ k_ ≠ gb101)) k_ ∧ some k_ ≠ (.slice (some ad111) x7_1.length co21 : Value).ownBlock)) (Kd.R_types (Kd.R_apart' (HO_10.out) (Kd.N_typed HO_7.out) (by decide)) BK101.out (by decide)) (fun k_ hk => ⟨⟨hk.1.1, hk.2⟩, hk.1.2⟩))))); (case aB => exact (zB)); (case aF => exact (fun k_ hk => ⟨Kd.fresh' (Kd.R_lt (zR HO_8.out)) k_ hk, Kd.freshB (g := gb101) (o := .cells #[.slice A0_0 l0_0.length c0_0] 28 (0, 0)) (zG BK101.out) k_ hk⟩)); (case aO => exact (by (with_reducible repeat (first | apply Kd.N_alloc | apply Kd.N_drewN | apply Kd.N_drew)); exact Kd.N_mono HO_7.out (fun _ hk => ⟨hk.1, hk.2.2⟩))); (case aS => exact (below_size (zB))); (case aL => have := LMc48.out; omega); intro v122 w49 ho hb hg hat; rw [← Ny121.out] at ho; have n_ := y4 (Kd.R_over' (zR HO_8.out) (Kd.N_typed (by (with_reducible repeat (first | apply Kd.N_alloc | apply Kd.N_drewN | apply Kd.N_drew)); exact HO_7.out)) (by decide) hg) (blk_grown (g := gb101) (o := .cells #[.slice A0_0 l0_0.length c0_0] 28 (0, 0)) (zG BK101.out) hg (Kd.N_ne HO_7.out BK101.out (by decide))) (hb) (ho); clear HO_8 BK101 HB HO_7 HO_10; obtain ⟨HO_8, BK101, HB, HO123⟩ := n_; clear ho hb hg hat))
                           (try simp only [← hl10_27])
                           go_roundg k4
                           case measure => have := HK1.out; have := HJ18.out; have := HJ27.out; have := HK4.out; omega
                           case rel => exact ⟨(y121), (y118), (wrap64 (x9_1 + 1)), zF, H', ⟨by have := HK1.out; have := HJ18.out; have := HJ27.out; have := HK4.out; omega⟩, ⟨by (try simp only [hl10_27]); (with_reducible repeat (first | apply Kd.N_alloc | apply Kd.N_drewN | apply Kd.N_drew)); exact HO123.out⟩, ⟨by (try simp only [hl10_27]); refine zR ?_; exact Kd.R_mono HO_8.out (fun _ hk => trivial)⟩, ⟨by (try simp only [hl10_27]); refine zG ?_; exact BK101.out⟩, ⟨zB⟩⟩
                         · rw [if_neg c48] at H
                           exact absurd H (by simp)
                 · rw [if_neg c35] at H
                   exact absurd H (by simp)
       · rw [if_neg c16] at H
         exact absurd H (by simp)
     · rw [if_neg c15] at H
       exact absurd H (by simp)
   · rw [if_neg c14] at H
     have c14b0 : decide (x9_1 < 200) = false := decide_eq_false c14
     clear c14
     simp only [Option.some.injEq, Prod.mk.injEq] at H
     obtain ⟨rfl, rfl, rfl⟩ := H
     go_wp2
     go_ret3
     exact ⟨_, zE, zN, zB⟩
end Go.Proofs.YtajfblkidneckaaDoor.P
end
section
namespace Go.Proofs.YtajfblkidneckaaDoor.P
open Go.RowKit Go.Proofs.YtajfblkidneckaaDoorW.PrintWords Go.Proofs.YtajfblkidneckaaDoorW.PrintLast Go.Proofs.YtajfblkidneckaaDoorW.PrintMore
attribute [local go_sem] max2_int min2_int max_two min_two max_three min_three max_four min_four   -- for this text's walks alone
set_option linter.unusedVariables false
set_option linter.unusedSimpArgs false
def spec_TurnsByHeight.f (k : Nat) (l0_0 : List Int) : Option (List Int × Int × Int) := (spec_l06Is.f k l0_0).bind fun t102 => (if t102 = true then ((spec_l06Round.f k l0_0 0).bind fun bt103 => (if bt103.2.2 = true then (some (bt103.1, bt103.2.1, 0)) else (some (([] : List Int), 0, 3)))) else (some (([] : List Int), 0, 1)))
theorem spec_TurnsByHeight.mono : ∀ a0 k, LeO (spec_TurnsByHeight.f k a0) (spec_TurnsByHeight.f (k + 1) a0) := by
  intro a0 k
  unfold spec_TurnsByHeight.f
  repeat' first | (with_reducible exact spec_l06Is.mono _ _) | (with_reducible exact spec_l06Round.mono _ _ _) | (with_reducible exact LeO.refl _) | (with_reducible exact LeO.none _) | (with_reducible refine LeO.ite ?_ ?_) | (with_reducible refine LeO.bind ?_ (fun _ => ?_)) | exact spec_l06Is.mono _ _ | exact spec_l06Round.mono _ _ _ | exact LeO.none _ | refine LeO.ite ?_ ?_ | refine LeO.bind ?_ (fun _ => ?_)
set_option maxHeartbeats 8000000 in
set_option maxRecDepth 100000 in
theorem spec_TurnsByHeight.calls (k : Nat) (A0_0 : Option Addr) (c0_0 : Nat) (l0_0 : List Int) (r1 : List Int) (r2 : Int) (r3 : Int) (w : World) (hr0_0 : Kd.C (Kd.int .i64) w A0_0 l0_0.length l0_0) (hc0_0 : l0_0.length ≤ c0_0) (h : spec_TurnsByHeight.f k l0_0 = some (r1, r2, r3)) :
    Calls Tryd.prog 14 #[.agg #[.slice A0_0 l0_0.length c0_0]] w fun e w' => ∃ v0_ : Value, e = .returned (.tuple #[v0_, .int .i64 r2, .int .i64 r3]) ∧ Kd.R (Kd.int .i64) 2 w' w.heap.size (fun _ => True) v0_ r1 ∧ Below w.heap.size w w' := by
 have hu28 := Tryd.underlying28
 have HR0_0 := Aside0.mk hr0_0
 have HC0_0 := Aside0.mk hc0_0
 clear hr0_0 hc0_0
 have HB := Aside0.mk (Below.refl w.heap.size w)
 have H : ((spec_l06Is.f k l0_0).bind fun t102 => (if t102 = true then ((spec_l06Round.f k l0_0 0).bind fun bt103 => (if bt103.2.2 = true then (some (bt103.1, bt103.2.1, 0)) else (some (([] : List Int), 0, 3)))) else (some (([] : List Int), 0, 1)))) = some (r1, r2, r3) := h
 clear h
 replace H := Option.bind_eq_some_iff.mp H
 obtain ⟨t102, A20, H⟩ := H
 replace H : (if t102 = true then ((spec_l06Round.f k l0_0 0).bind fun bt103 => (if bt103.2.2 = true then (some (bt103.1, bt103.2.1, 0)) else (some (([] : List Int), 0, 3)))) else (some (([] : List Int), 0, 1))) = some (r1, r2, r3) := H
 have A2 := Aside0.mk A20
 clear A20
 by_cases c3 : t102 = true
 ·
  subst c3
  have H1 : ((spec_l06Round.f k l0_0 0).bind fun bt103 => (if bt103.2.2 = true then (some (bt103.1, bt103.2.1, 0)) else (some (([] : List Int), 0, 3)))) = some (r1, r2, r3) := by rw [if_pos rfl] at H; exact H
  clear H
  have H := H1
  clear H1
  replace H := Option.bind_eq_some_iff.mp H
  obtain ⟨⟨t103, t106, t107⟩, A40, H⟩ := H
  replace H : (if t107 = true then (some (t103, t106, 0)) else (some (([] : List Int), 0, 3))) = some (r1, r2, r3) := H
  have A4 := Aside0.mk A40
  clear A40
  by_cases c5 : t107 = true
  ·
   subst c5
   have H1 : (some (t103, t106, 0)) = some (r1, r2, r3) := by rw [if_pos rfl] at H; exact H
   clear H
   have H := H1
   clear H1
   simp only [Option.some.injEq, Prod.mk.injEq] at H
   obtain ⟨rfl, rfl, rfl⟩ := H
   go_enter Tryd.func14, Tryd.ntmps14
   go_wp2_with (first | ((with_reducible refine gate_dst (N := 1) rfl ?_); refine box_event zr (N := 1) zr (cs := #[.slice A0_0 l0_0.length c0_0]) (t := 28) zg ?_; intro gb101 hg w6 hbox hb; have n_ := y4 (below_step (zB) hb) (hbox) ((zS hg : w.heap.size ≤ gb101)) ((zS hg : w.heap.size ≤ gb101)); clear HB; obtain ⟨HB, BK101, GW101, GE101⟩ := n_; clear hb hbox hg; have hcz7_0 := zc BK101.out; have hfz7_0 := blk_frozen BK101.out 0) | ((with_reducible refine gate_callee (f := 17) rfl ?_); refine goesL_ (some 9) rfl rfl Tryd.func17 zk rfl #[.agg #[.slice A0_0 l0_0.length c0_0]] rfl zA ?_; (with_reducible refine (spec_l06Is.calls k _ _ l0_0 true _ ?side1 ?side2 A2.out).mono ?_); (case side1 => exact zC (Kd.C_below HR0_0.out HB.out)); (case side2 => exact HC0_0.out); rintro e w8 ⟨rfl, hb⟩; refine ⟨_, rfl, ?_⟩; have n_ := y2 (zb BK101.out hb) (below_step (zB) hb); clear BK101 HB; obtain ⟨BK101, HB⟩ := n_; (try clear hb); (try clear hb2); (try clear hk); (try clear hi); have hcz9_0 := zc BK101.out; have hfz9_0 := blk_frozen BK101.out 0) | ((with_reducible refine gate_callee (f := 19) rfl ?_); refine goesL_ (some 13) rfl rfl Tryd.func19 zk rfl #[.agg #[.slice A0_0 l0_0.length c0_0], .int .i64 0] rfl zA ?_; (with_reducible refine (spec_l06Round.calls k _ _ l0_0 0 t103 t106 true _ ?side1 ?side2 A4.out).mono ?_); (case side1 => exact zC (Kd.C_below HR0_0.out HB.out)); (case side2 => exact HC0_0.out); rintro e w10 ⟨v104, rfl, ho0, hb⟩; refine ⟨_, rfl, ?_⟩; have n_ := y3 (Kd.R_lower ho0 (below_size (zB))) (zb BK101.out hb) (below_step (zB) hb); clear BK101 HB; obtain ⟨HO105, BK101, HB⟩ := n_; (try clear hb); (try clear hb2); (try clear hk); (try clear hi); (try clear ho0)))
   go_ret3
   exact ⟨_, zE, zR HO105.out, zB⟩
  replace c5 := Bool.eq_false_iff.mpr c5
  subst c5
  have H1 : (some (([] : List Int), 0, 3)) = some (r1, r2, r3) := by rw [if_neg (show ¬ (false = true) by decide)] at H; exact H
  clear H
  have H := H1
  clear H1
  simp only [Option.some.injEq, Prod.mk.injEq] at H
  obtain ⟨rfl, rfl, rfl⟩ := H
  go_enter Tryd.func14, Tryd.ntmps14
  go_wp2_with (first | ((with_reducible refine gate_dst (N := 1) rfl ?_); refine box_event zr (N := 1) zr (cs := #[.slice A0_0 l0_0.length c0_0]) (t := 28) zg ?_; intro gb101 hg w11 hbox hb; have n_ := y4 (below_step (zB) hb) (hbox) ((zS hg : w.heap.size ≤ gb101)) ((zS hg : w.heap.size ≤ gb101)); clear HB; obtain ⟨HB, BK101, GW101, GE101⟩ := n_; clear hb hbox hg; have hcz12_0 := zc BK101.out; have hfz12_0 := blk_frozen BK101.out 0) | ((with_reducible refine gate_callee (f := 17) rfl ?_); refine goesL_ (some 9) rfl rfl Tryd.func17 zk rfl #[.agg #[.slice A0_0 l0_0.length c0_0]] rfl zA ?_; (with_reducible refine (spec_l06Is.calls k _ _ l0_0 true _ ?side1 ?side2 A2.out).mono ?_); (case side1 => exact zC (Kd.C_below HR0_0.out HB.out)); (case side2 => exact HC0_0.out); rintro e w13 ⟨rfl, hb⟩; refine ⟨_, rfl, ?_⟩; have n_ := y2 (zb BK101.out hb) (below_step (zB) hb); clear BK101 HB; obtain ⟨BK101, HB⟩ := n_; (try clear hb); (try clear hb2); (try clear hk); (try clear hi); have hcz14_0 := zc BK101.out; have hfz14_0 := blk_frozen BK101.out 0) | ((with_reducible refine gate_callee (f := 19) rfl ?_); refine goesL_ (some 13) rfl rfl Tryd.func19 zk rfl #[.agg #[.slice A0_0 l0_0.length c0_0], .int .i64 0] rfl zA ?_; (with_reducible refine (spec_l06Round.calls k _ _ l0_0 0 t103 t106 false _ ?side1 ?side2 A4.out).mono ?_); (case side1 => exact zC (Kd.C_below HR0_0.out HB.out)); (case side2 => exact HC0_0.out); rintro e w15 ⟨v104, rfl, ho0, hb⟩; refine ⟨_, rfl, ?_⟩; have n_ := y3 (Kd.R_lower ho0 (below_size (zB))) (zb BK101.out hb) (below_step (zB) hb); clear BK101 HB; obtain ⟨HO105, BK101, HB⟩ := n_; (try clear hb); (try clear hb2); (try clear hk); (try clear hi); (try clear ho0)))
  go_ret3
  exact ⟨_, zE, zN, zB⟩
 replace c3 := Bool.eq_false_iff.mpr c3
 subst c3
 have H1 : (some (([] : List Int), 0, 1)) = some (r1, r2, r3) := by rw [if_neg (show ¬ (false = true) by decide)] at H; exact H
 clear H
 have H := H1
 clear H1
 simp only [Option.some.injEq, Prod.mk.injEq] at H
 obtain ⟨rfl, rfl, rfl⟩ := H
 go_enter Tryd.func14, Tryd.ntmps14
 go_wp2_with (first | ((with_reducible refine gate_dst (N := 1) rfl ?_); refine box_event zr (N := 1) zr (cs := #[.slice A0_0 l0_0.length c0_0]) (t := 28) zg ?_; intro gb101 hg w16 hbox hb; have n_ := y4 (below_step (zB) hb) (hbox) ((zS hg : w.heap.size ≤ gb101)) ((zS hg : w.heap.size ≤ gb101)); clear HB; obtain ⟨HB, BK101, GW101, GE101⟩ := n_; clear hb hbox hg; have hcz17_0 := zc BK101.out; have hfz17_0 := blk_frozen BK101.out 0) | ((with_reducible refine gate_callee (f := 17) rfl ?_); refine goesL_ (some 9) rfl rfl Tryd.func17 zk rfl #[.agg #[.slice A0_0 l0_0.length c0_0]] rfl zA ?_; (with_reducible refine (spec_l06Is.calls k _ _ l0_0 false _ ?side1 ?side2 A2.out).mono ?_); (case side1 => exact zC (Kd.C_below HR0_0.out HB.out)); (case side2 => exact HC0_0.out); rintro e w18 ⟨rfl, hb⟩; refine ⟨_, rfl, ?_⟩; have n_ := y2 (zb BK101.out hb) (below_step (zB) hb); clear BK101 HB; obtain ⟨BK101, HB⟩ := n_; (try clear hb); (try clear hb2); (try clear hk); (try clear hi)))
 go_ret3
 exact ⟨_, zE, zN, zB⟩
end Go.Proofs.YtajfblkidneckaaDoor.P
end
section
namespace Go.Proofs.YtajfblkidneckaaDoor.P
open Go.RowKit Go.Proofs.YtajfblkidneckaaDoorW.PrintWords Go.Proofs.YtajfblkidneckaaDoorW.PrintLast Go.Proofs.YtajfblkidneckaaDoorW.PrintMore
attribute [local go_sem] max2_int min2_int max_two min_two max_three min_three max_four min_four   -- for this text's walks alone
set_option linter.unusedVariables false
set_option linter.unusedSimpArgs false
mutual
def laws_FnExactTurnsByHeight.j0 : Nat → List Int → Int → Int → List Int → Int → Int → Bool → List Int → List Int → Option (Bool)
  | 0, _, _, _, _, _, _, _, _, _ => none
  | k + 1, x4, x5, x6, x8, x9, x10, x50, x102000, x115000 => if x50 = true then (some false) else ((laws_toGarden.f k x102000).bind fun t121 => ((laws_eqGarden.f k x115000 t121).bind fun t124 => (if t124 = true then ((laws_markGarden.f k x115000 1).bind fun bt125 => (if bt125.1 < 0 then (laws_FnExactTurnsByHeight.j1 k x4 x5 x6 x8 true x102000) else ((laws_eqInt64S.f k x8 x4).bind fun t127 => (if t127 = true then (if x9 = x5 then (laws_FnExactTurnsByHeight.j1 k x4 x5 x6 x8 (x10 != x6) x102000) else (laws_FnExactTurnsByHeight.j1 k x4 x5 x6 x8 true x102000)) else (laws_FnExactTurnsByHeight.j1 k x4 x5 x6 x8 true x102000))))) else (some false))))
def laws_FnExactTurnsByHeight.j1 : Nat → List Int → Int → Int → List Int → Bool → List Int → Option (Bool)
  | 0, _, _, _, _, _, _ => none
  | k + 1, x4, x5, x6, x8, x76, x102000 => if x76 = true then (some false) else ((laws_markInt64S.f k x8 1).bind fun bt128 => ((laws_heldInt64S.f k bt128.2 1).bind fun t130 => (if t130 < 0 then (some false) else (if t130 = bt128.1 then ((laws_toGarden.f k x102000).bind fun t131 => ((impl_TurnsByHeight.f t131).bind fun bt134 => ((laws_eqInt64S.f k bt134.1 x4).bind fun t139 => (if t139 = true then (if bt134.2.1 = x5 then (laws_FnExactTurnsByHeight.j2 k bt128.2 bt128.1 (bt134.2.2 != x6)) else (laws_FnExactTurnsByHeight.j2 k bt128.2 bt128.1 true)) else (laws_FnExactTurnsByHeight.j2 k bt128.2 bt128.1 true))))) else (some false)))))
def laws_FnExactTurnsByHeight.j2 : Nat → List Int → Int → Bool → Option (Bool)
  | 0, _, _, _ => none
  | k + 1, x8, x12, x108 => if x108 = true then (some false) else ((laws_heldInt64S.f k x8 1).bind fun t140 => (if t140 < 0 then (some false) else (if t140 = x12 then (some true) else (some false))))
end
def laws_FnExactTurnsByHeight.f (k : Nat) (l0_0 : List Int) : Option (Bool) := (laws_szGarden.f l0_0 1048576).bind fun t102 => (if t102 < 0 then (some true) else ((laws_toGarden.f k l0_0).bind fun t103 => ((spec_TurnsByHeight.f k t103).bind fun bt106 => ((laws_toGarden.f k l0_0).bind fun t111 => ((impl_TurnsByHeight.f t111).bind fun bt115 => ((laws_eqInt64S.f k bt115.1 bt106.1).bind fun t120 => (if t120 = true then (if bt115.2.1 = bt106.2.1 then (laws_FnExactTurnsByHeight.j0 k bt106.1 bt106.2.1 bt106.2.2 bt115.1 bt115.2.1 bt115.2.2 (bt115.2.2 != bt106.2.2) l0_0 t111) else (laws_FnExactTurnsByHeight.j0 k bt106.1 bt106.2.1 bt106.2.2 bt115.1 bt115.2.1 bt115.2.2 true l0_0 t111)) else (laws_FnExactTurnsByHeight.j0 k bt106.1 bt106.2.1 bt106.2.2 bt115.1 bt115.2.1 bt115.2.2 true l0_0 t111))))))))
theorem laws_FnExactTurnsByHeight.mono_l : ∀ k, (∀ y0 y1 y2 y3 y4 y5 y6 y7 y8, LeO (laws_FnExactTurnsByHeight.j0 k y0 y1 y2 y3 y4 y5 y6 y7 y8) (laws_FnExactTurnsByHeight.j0 (k + 1) y0 y1 y2 y3 y4 y5 y6 y7 y8)) ∧ (∀ y0 y1 y2 y3 y4 y5, LeO (laws_FnExactTurnsByHeight.j1 k y0 y1 y2 y3 y4 y5) (laws_FnExactTurnsByHeight.j1 (k + 1) y0 y1 y2 y3 y4 y5)) ∧ (∀ y0 y1 y2, LeO (laws_FnExactTurnsByHeight.j2 k y0 y1 y2) (laws_FnExactTurnsByHeight.j2 (k + 1) y0 y1 y2))
  | 0 => ⟨fun _ _ _ _ _ _ _ _ _ r h => by simp [laws_FnExactTurnsByHeight.j0] at h, fun _ _ _ _ _ _ r h => by simp [laws_FnExactTurnsByHeight.j1] at h, fun _ _ _ r h => by simp [laws_FnExactTurnsByHeight.j2] at h⟩
  | k + 1 => by
    obtain ⟨ih0, ih1, ih2⟩ := laws_FnExactTurnsByHeight.mono_l k
    refine ⟨?_, ?_, ?_⟩ <;> intros <;> (first | unfold laws_FnExactTurnsByHeight.j0 | unfold laws_FnExactTurnsByHeight.j1 | unfold laws_FnExactTurnsByHeight.j2) <;> repeat' first | (with_reducible exact ih0 _ _ _ _ _ _ _ _ _) | (with_reducible exact ih1 _ _ _ _ _ _) | (with_reducible exact ih2 _ _ _) | (with_reducible exact laws_eqGarden.mono _ _ _) | (with_reducible exact laws_eqInt64S.mono _ _ _) | (with_reducible exact laws_heldInt64S.mono _ _ _) | (with_reducible exact laws_markGarden.mono _ _ _) | (with_reducible exact laws_markInt64S.mono _ _ _) | (with_reducible exact laws_toGarden.mono _ _) | (with_reducible exact spec_TurnsByHeight.mono _ _) | (with_reducible exact LeO.refl _) | (with_reducible exact LeO.none _) | (with_reducible refine LeO.ite ?_ ?_) | (with_reducible refine LeO.bind ?_ (fun _ => ?_)) | exact ih0 _ _ _ _ _ _ _ _ _ | exact ih1 _ _ _ _ _ _ | exact ih2 _ _ _ | exact laws_eqGarden.mono _ _ _ | exact laws_eqInt64S.mono _ _ _ | exact laws_heldInt64S.mono _ _ _ | exact laws_markGarden.mono _ _ _ | exact laws_markInt64S.mono _ _ _ | exact laws_toGarden.mono _ _ | exact spec_TurnsByHeight.mono _ _ | exact LeO.none _ | refine LeO.ite ?_ ?_ | refine LeO.bind ?_ (fun _ => ?_)
theorem laws_FnExactTurnsByHeight.mono : ∀ a0 k, LeO (laws_FnExactTurnsByHeight.f k a0) (laws_FnExactTurnsByHeight.f (k + 1) a0) := by
  intro a0 k
  obtain ⟨ih0, ih1, ih2⟩ := laws_FnExactTurnsByHeight.mono_l k
  unfold laws_FnExactTurnsByHeight.f
  repeat' first | (with_reducible exact ih0 _ _ _ _ _ _ _ _ _) | (with_reducible exact ih1 _ _ _ _ _ _) | (with_reducible exact ih2 _ _ _) | (with_reducible exact laws_eqGarden.mono _ _ _) | (with_reducible exact laws_eqInt64S.mono _ _ _) | (with_reducible exact laws_heldInt64S.mono _ _ _) | (with_reducible exact laws_markGarden.mono _ _ _) | (with_reducible exact laws_markInt64S.mono _ _ _) | (with_reducible exact laws_toGarden.mono _ _) | (with_reducible exact spec_TurnsByHeight.mono _ _) | (with_reducible exact LeO.refl _) | (with_reducible exact LeO.none _) | (with_reducible refine LeO.ite ?_ ?_) | (with_reducible refine LeO.bind ?_ (fun _ => ?_)) | exact ih0 _ _ _ _ _ _ _ _ _ | exact ih1 _ _ _ _ _ _ | exact ih2 _ _ _ | exact laws_eqGarden.mono _ _ _ | exact laws_eqInt64S.mono _ _ _ | exact laws_heldInt64S.mono _ _ _ | exact laws_markGarden.mono _ _ _ | exact laws_markInt64S.mono _ _ _ | exact laws_toGarden.mono _ _ | exact spec_TurnsByHeight.mono _ _ | exact LeO.none _ | refine LeO.ite ?_ ?_ | refine LeO.bind ?_ (fun _ => ?_)
end Go.Proofs.YtajfblkidneckaaDoor.P
end
