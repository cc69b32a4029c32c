/- The program's FirstLate returns what the reference's returns, for all jobs; no condition beside. -/
import Derived.Test.YtjkgjmaldbmgmaaCFnExactFirstLate3
section
namespace Go.Proofs.Ytjkgjmaldbmgmaa.P
open Go.RowKit Go.Proofs.YtjkgjmaldbmgmaaW.PrintWords Go.Proofs.YtjkgjmaldbmgmaaW.PrintLast Go.Proofs.YtjkgjmaldbmgmaaW.PrintMore
attribute [local go_sem] max2_int min2_int max_two min_two max_three min_three max_four min_four   -- for this text's walks alone
set_option linter.unusedVariables false
set_option linter.unusedSimpArgs false
theorem spec_l04Slots.mono : ∀ a0 a1 a2 k, LeO (spec_l04Slots.f k a0 a1 a2) (spec_l04Slots.f (k + 1) a0 a1 a2) := by
 intro a0 a1 a2 k
 obtain ⟨ih0, ih1, ih2⟩ := spec_l04Slots.mono_l k
 unfold spec_l04Slots.f
 repeat' first
   | (with_reducible exact ih0 _ _ _ _ _ _ _ _)
   | (with_reducible exact ih1 _ _ _ _ _ _ _ _ _)
   | (with_reducible exact ih2 _ _ _ _ _ _ _ _ _ _)
   | (with_reducible exact spec_l04Whole.mono _ _ _ _)
   | (with_reducible exact LeO.refl _)
   | (with_reducible exact LeO.none _)
   | (with_reducible refine LeO.ite ?_ ?_)
   | (with_reducible refine LeO.bind ?_ (fun _ => ?_))
   | exact ih0 _ _ _ _ _ _ _ _
   | exact ih1 _ _ _ _ _ _ _ _ _
   | exact ih2 _ _ _ _ _ _ _ _ _ _
   | exact spec_l04Whole.mono _ _ _ _
   | exact LeO.none _
   | refine LeO.ite ?_ ?_
   | refine LeO.bind ?_ (fun _ => ?_)
def spec_l04Slots.T2 : Bool × List (List Nat × List Nat) := (true, [([], []), ([0], [0]), ([1], [1]), ([2, 2], [2]), ([], []), ([4], [4]), ([5], [5]), ([6, 6], [6]), ([3, 0, 1, 2, 3], [3]), ([7, 8, 0, 1, 2, 3, 4, 5, 6, 7, 8], [7])])
def spec_l04Slots.B2 : List Nat := [0, 1, 3, 7, 0, 16, 48, 112, 15, 511]
theorem spec_l04Slots.tab2 : rtab .any (opsOf Try.f65 2) = spec_l04Slots.T2 := by kernel_rfl
theorem spec_l04Slots.bits2 : waitsOk spec_l04Slots.T2.2 spec_l04Slots.B2 = true := by kernel_rfl
def spec_l04Slots.T19 : Bool × List (List Nat × List Nat) := (true, [([], []), ([], []), ([0, 1], [0, 1]), ([2], [2]), ([3], [3]), ([4], [4]), ([5], [5]), ([6, 5], [5, 6]), ([7, 5, 5], [5, 7]), ([8], [8]), ([8], [8]), ([9, 10, 8], [8, 9, 10]), ([11, 8], [8, 11]), ([8], [8]), ([8], [8]), ([13, 14, 8], [8, 13, 14]), ([15, 8], [8, 15]), ([12, 16, 8], [8, 12, 16]), ([8, 17, 5], [5, 8, 17]), ([5, 18], [5, 18])])
def spec_l04Slots.B19 : List Nat := [0, 0, 3, 7, 15, 31, 63, 127, 255, 511, 511, 2047, 4095, 511, 511, 25087, 57855, 131071, 262143, 524287]
theorem spec_l04Slots.tab19 : rtab .any (opsOf Try.f65 19) = spec_l04Slots.T19 := by kernel_rfl
theorem spec_l04Slots.bits19 : waitsOk spec_l04Slots.T19.2 spec_l04Slots.B19 = true := by kernel_rfl
set_option maxHeartbeats 8000000 in
set_option maxRecDepth 100000 in
theorem spec_l04Slots.calls (k : Nat) (A0_0 : Option Addr) (c0_0 : Nat) (l0_0 : List Int) (A0_1 : Option Addr) (c0_1 : Nat) (l0_1 : List Int) (A0_2 : Option Addr) (c0_2 : Nat) (l0_2 : List Int) (r1 : List Int) (r2 : Int) (r3 : Int) (w : World) (hr0_0 : Kd.C (Kd.int .i64) w A0_0 l0_0.length l0_0) (hc0_0 : l0_0.length ≤ c0_0) (hr0_1 : Kd.C (Kd.int .i64) w A0_1 l0_1.length l0_1) (hc0_1 : l0_1.length ≤ c0_1) (hr0_2 : Kd.C (Kd.int .i64) w A0_2 l0_2.length l0_2) (hc0_2 : l0_2.length ≤ c0_2) (h : spec_l04Slots.f k l0_0 l0_1 l0_2 = some (r1, r2, r3)) :
  Calls Try.prog 65 #[.agg #[.slice A0_0 l0_0.length c0_0, .slice A0_1 l0_1.length c0_1, .slice A0_2 l0_2.length c0_2]] w fun e w' => ∃ v0_ : Value, e = .returned (.tuple #[v0_, .int .i64 r2, .int .i64 r3]) ∧ Kd.R (Kd.int .i64) 2 w' w.heap.size (fun _ => True) v0_ r1 ∧ Below w.heap.size w w' := by
 have hu32 := Try.underlying32
 have HR0_0 := Aside0.mk hr0_0
 have HC0_0 := Aside0.mk hc0_0
 clear hr0_0 hc0_0
 have HR0_1 := Aside0.mk hr0_1
 have HC0_1 := Aside0.mk hc0_1
 clear hr0_1 hc0_1
 have HR0_2 := Aside0.mk hr0_2
 have HC0_2 := Aside0.mk hc0_2
 clear hr0_2 hc0_2
 have HB := Aside0.mk (Below.refl w.heap.size w)
 have H : ((spec_l04Whole.f k l0_0 l0_1 l0_2).bind fun t102 => (if 0 ≤ (l0_0.length : Int) then (if ((l0_0.length : Int) : Int).toNat ≤ 35184372088832 then (spec_l04Slots.l0 k t102 (([] : List Int)) (List.replicate ((l0_0.length : Int) : Int).toNat 0) (List.replicate ((l0_0.length : Int) : Int).toNat 0) 0 l0_0 l0_1 l0_2) else (none)) else (none))) = some (r1, r2, r3) := h
 clear h
 replace H := Option.bind_eq_some_iff.mp H
 obtain ⟨t102, A20, H⟩ := H
 replace H : (if 0 ≤ (l0_0.length : Int) then (if ((l0_0.length : Int) : Int).toNat ≤ 35184372088832 then (spec_l04Slots.l0 k t102 (([] : List Int)) (List.replicate ((l0_0.length : Int) : Int).toNat 0) (List.replicate ((l0_0.length : Int) : Int).toNat 0) 0 l0_0 l0_1 l0_2) else (none)) else (none)) = some (r1, r2, r3) := H
 have A2 := Aside0.mk A20
 clear A20
 obtain ⟨y103, hy103⟩ : ∃ y_ : List Int, y_ = (([] : List Int)) := ⟨_, rfl⟩
 replace H : (if 0 ≤ (l0_0.length : Int) then (if ((l0_0.length : Int) : Int).toNat ≤ 35184372088832 then (spec_l04Slots.l0 k t102 y103 (List.replicate ((l0_0.length : Int) : Int).toNat 0) (List.replicate ((l0_0.length : Int) : Int).toNat 0) 0 l0_0 l0_1 l0_2) else (none)) else (none)) = some (r1, r2, r3) := by first | (rw [hy103]; with_reducible exact H) | (have H2_ := (Option.bind_some _ _).symm.trans H; rw [hy103]; with_reducible exact H2_) | (have H2_ := (Option.bind_some _ _).symm.trans H; with_reducible exact H2_) | with_reducible exact H | (rw [hy103]; exact H) | exact H
 have Ny103 := Aside0.mk hy103
 clear hy103
 by_cases c3 : 0 ≤ (l0_0.length : Int)
 ·
  rw [if_pos c3] at H
  have c3b0 := eq_true c3
  have c3b1 : decide (0 ≤ (l0_0.length : Int)) = true := decide_eq_true c3
  clear c3
  by_cases c4 : ((l0_0.length : Int) : Int).toNat ≤ 35184372088832
  ·
   rw [if_pos c4] at H
   have c4b0 := eq_true c4
   have c4b1 : decide (((l0_0.length : Int) : Int).toNat ≤ 35184372088832) = true := decide_eq_true c4
   clear c4
   obtain ⟨y106, hy106⟩ : ∃ y_ : List Int, y_ = (List.replicate ((l0_0.length : Int) : Int).toNat 0) := ⟨_, rfl⟩
   replace H : (spec_l04Slots.l0 k t102 y103 y106 (List.replicate ((l0_0.length : Int) : Int).toNat 0) 0 l0_0 l0_1 l0_2) = some (r1, r2, r3) := by first | (rw [hy106]; with_reducible exact H) | (have H2_ := (Option.bind_some _ _).symm.trans H; rw [hy106]; with_reducible exact H2_) | (have H2_ := (Option.bind_some _ _).symm.trans H; with_reducible exact H2_) | with_reducible exact H | (rw [hy106]; exact H) | exact H
   have Ny106 := Aside0.mk hy106
   clear hy106
   obtain ⟨y109, hy109⟩ : ∃ y_ : List Int, y_ = (List.replicate ((l0_0.length : Int) : Int).toNat 0) := ⟨_, rfl⟩
   replace H : (spec_l04Slots.l0 k t102 y103 y106 y109 0 l0_0 l0_1 l0_2) = some (r1, r2, r3) := by first | (rw [hy109]; with_reducible exact H) | (have H2_ := (Option.bind_some _ _).symm.trans H; rw [hy109]; with_reducible exact H2_) | (have H2_ := (Option.bind_some _ _).symm.trans H; with_reducible exact H2_) | with_reducible exact H | (rw [hy109]; exact H) | exact H
   have Ny109 := Aside0.mk hy109
   clear hy109
   have H' := Aside0.mk H
   clear H
   go_enter Try.func65, Try.ntmps65
   try go_wp2_with (first | ((with_reducible refine gate_dst (N := 1) rfl ?_); refine box_event ?hg (N := 1) ?hd (cs := #[.slice A0_0 l0_0.length c0_0, .slice A0_1 l0_1.length c0_1, .slice A0_2 l0_2.length c0_2]) (t := 32) ?hr ?_; (case hd => rfl); (case hg => rfl); (case hr => first | (go_simp; done) | (go_simp; rfl)); intro gb101 hg w5 hbox hb; have n0_ := Aside0.mk (below_step (by repeat (first | exact HB.out | apply below_alloc | apply pw_below_drewN | apply below_drew1)) hb); have n1_ := Aside0.mk (hbox); have n2_ := Aside0.mk ((by rw [hg]; exact (below_size (by repeat (first | exact HB.out | apply below_alloc | apply pw_below_drewN | apply below_drew1))) : w.heap.size ≤ gb101)); have n3_ := Aside0.mk ((by rw [hg]; exact (below_size (by repeat (first | exact HB.out | apply below_alloc | apply pw_below_drewN | apply below_drew1))) : w.heap.size ≤ gb101)); clear HB; have HB := n0_; have BK101 := n1_; have GW101 := n2_; have GE101 := n3_; clear n0_ n1_ n2_ n3_; clear hb hbox hg; have hcz6_0 : w5.cell? ⟨gb101, 0, none⟩ = some (.slice A0_0 l0_0.length c0_0) := (blk_cell BK101.out 0).trans rfl; have hcz6_1 : w5.cell? ⟨gb101, 1, none⟩ = some (.slice A0_1 l0_1.length c0_1) := (blk_cell BK101.out 1).trans rfl; have hcz6_2 : w5.cell? ⟨gb101, 2, none⟩ = some (.slice A0_2 l0_2.length c0_2) := (blk_cell BK101.out 2).trans rfl; have hfz6_0 := blk_frozen BK101.out 0; have hfz6_1 := blk_frozen BK101.out 1; have hfz6_2 := blk_frozen BK101.out 2) | ((with_reducible refine gate_callee (f := 125) rfl ?_); refine goesL_ (some 14) rfl rfl Try.func125 (by kernel_rfl) rfl #[.agg #[.slice A0_0 l0_0.length c0_0, .slice A0_1 l0_1.length c0_1, .slice A0_2 l0_2.length c0_2]] rfl (by (try simp only [List.map_toArray, List.map_cons, List.map_nil]); first | done | rfl | (simp only [List.length_drop, List.length_take]; rfl)) ?_; (with_reducible refine (spec_l04Whole.calls k _ _ l0_0 _ _ l0_1 _ _ l0_2 t102 _ ?side1 ?side2 ?side3 ?side4 ?side5 ?side6 A2.out).mono ?_); (case side1 => repeat (first | exact (Kd.C_below HR0_0.out HB.out) | (with_reducible refine Kd.C_alloc ?_ _) | (with_reducible refine Kd.C_drewN ?_ _) | (with_reducible refine Kd.C_drew ?_))); (case side2 => exact HC0_0.out); (case side3 => repeat (first | exact (Kd.C_below HR0_1.out HB.out) | (with_reducible refine Kd.C_alloc ?_ _) | (with_reducible refine Kd.C_drewN ?_ _) | (with_reducible refine Kd.C_drew ?_))); (case side4 => exact HC0_1.out); (case side5 => repeat (first | exact (Kd.C_below HR0_2.out HB.out) | (with_reducible refine Kd.C_alloc ?_ _) | (with_reducible refine Kd.C_drewN ?_ _) | (with_reducible refine Kd.C_drew ?_))); (case side6 => exact HC0_2.out); rintro e w7 ⟨rfl, hb⟩; refine ⟨_, rfl, ?_⟩; have n0_ := Aside0.mk (blk_below (g := gb101) (o := .cells #[.slice A0_0 l0_0.length c0_0, .slice A0_1 l0_1.length c0_1, .slice A0_2 l0_2.length c0_2] 32 (0, 0)) (by (with_reducible repeat (first | refine blk_drewN ?_ _ | refine blk_drew ?_ | refine blk_alloc ?_ _)); exact BK101.out) hb); have n1_ := Aside0.mk (below_step (by repeat (first | (with_reducible first | exact HB.out | apply below_alloc | apply pw_below_drewN | apply below_drew1 | refine below_set ?_ GE101.out) | exact HB.out)) hb); clear BK101; clear HB; have BK101 := n0_; have HB := n1_; clear n0_ n1_; (try clear hb); (try clear hb2); (try clear hk); (try clear hi)) | ((with_reducible refine gate_dst (N := 15) rfl ?_); refine Kd.R_lit (Kd.int .i64) _ 2 ?hg (N := 15) ?hd (xs := ([] : List Int)) (inner := []) (ok := fun _ => True) (okp := fun _ => True) ?hr ?hp (fun _ hk => hk) trivial (Below.refl _ _) (Nat.le_refl _) (by simp) ?_; (case hd => rfl); (case hg => rfl); (case hr => first | (go_simp; done) | (go_simp; rfl)); (case hp => exact (Reps.none _ _)); intro v104 w8 ho9 hb hg_ hnew_; clear hg_ hnew_; (first | rw [← Ny103.out] at ho9 | (simp only [Int.reduceToNat] at ho9; rw [← Ny103.out] at ho9)); have n0_ := Aside0.mk (Kd.R_lower ho9 (below_size (by repeat (first | (with_reducible first | exact HB.out | apply below_alloc | apply pw_below_drewN | apply below_drew1 | refine below_set ?_ GE101.out) | exact HB.out)))); have n1_ := Aside0.mk (blk_below (g := gb101) (o := .cells #[.slice A0_0 l0_0.length c0_0, .slice A0_1 l0_1.length c0_1, .slice A0_2 l0_2.length c0_2] 32 (0, 0)) (by (with_reducible repeat (first | refine blk_drewN ?_ _ | refine blk_drew ?_ | refine blk_alloc ?_ _)); exact BK101.out) hb); have n2_ := Aside0.mk (below_step (by repeat (first | (with_reducible first | exact HB.out | apply below_alloc | apply pw_below_drewN | apply below_drew1 | refine below_set ?_ GE101.out) | exact HB.out)) hb); clear BK101; clear HB; have HO105 := n0_; have BK101 := n1_; have HB := n2_; clear n0_ n1_ n2_; clear hb ho9))
   have n0_ := Aside0.mk (Kd.R_drew HO105.out)
   have n1_ := Aside0.mk (blk_drew BK101.out)
   have n2_ := Aside0.mk (below_drew1 HB.out)
   clear HO105
   clear BK101
   clear HB
   have HO105 := n0_
   have BK101 := n1_
   have HB := n2_
   clear n0_ n1_ n2_
   refine start_ (n := 10) (S := fun w' => w'.cell? ⟨gb101, 0, none⟩ = some (.slice A0_0 l0_0.length c0_0) ∧ w'.cell? ⟨gb101, 1, none⟩ = some (.slice A0_1 l0_1.length c0_1) ∧ w'.cell? ⟨gb101, 2, none⟩ = some (.slice A0_2 l0_2.length c0_2)) (ds := []) #[false,false,false,false,false,false,false,false,false,false] (by kernel_rfl) rfl rfl ⟨(blk_cell BK101.out 0).trans rfl, (blk_cell BK101.out 1).trans rfl, (blk_cell BK101.out 2).trans rfl⟩ (fun hHeld => ?_); refine with_tabW spec_l04Slots.tab2 spec_l04Slots.bits2 (fun HT_ HW_ => ?_)
   generalize w8.drew = w10 at HO105 BK101 HB hHeld ⊢
   refine pure_ (i := 0) (N := some 16) (v := ?_) (a' := ?_) #[true,false,false,false,false,false,false,false,false,false] rfl rfl (any_of HT_.out (by kernel_rfl)) (fun _ _ _ h => h) (Or.inl ⟨by rfl, ?_⟩) ?_ ?_
   rotate_left; (· intro w'; go_simp; with_reducible rfl); rotate_left; (· simp only [Act.put, q6f5_1, q6f5_2, q6f5_3, i64_w, i32_w]; rfl)
   refine pure_ (i := 4) (N := some 20) (v := ?_) (a' := ?_) #[true,false,false,false,true,false,false,false,false,false] rfl rfl (any_of HT_.out (by kernel_rfl)) (fun _ _ _ h => h) (Or.inl ⟨by rfl, ?_⟩) ?_ ?_
   rotate_left; (· intro w'; go_simp; with_reducible rfl); rotate_left; (· simp only [Act.put, q6f5_1, q6f5_2, q6f5_3, i64_w, i32_w]; rfl)
   refine take_ (i := 1) (N := some 17) (v := ?_) (a' := ?_) #[true,true,false,false,true,false,false,false,false,false] rfl rfl (take_ofW HT_.out HW_.out (by kernel_rfl)) (fun _ _ _ h => h) (Or.inl ⟨by rfl, ?_⟩) hHeld ?_ ?_
   rotate_left; (· rintro w' ⟨s0, s1, s2⟩; go_simp; with_reducible rfl); rotate_left; (· simp only [Act.put, q6f5_1, q6f5_2, q6f5_3, i64_w, i32_w]; rfl)
   refine pure_ (i := 2) (N := some 18) (v := ?_) (a' := ?_) #[true,true,true,false,true,false,false,false,false,false] rfl rfl (any_of HT_.out (by kernel_rfl)) (fun _ _ _ h => h) (Or.inl ⟨by rfl, ?_⟩) ?_ ?_
   rotate_left; (· intro w'; go_simp; with_reducible rfl); rotate_left; (· simp only [Act.put, q6f5_1, q6f5_2, q6f5_3, i64_w, i32_w]; rfl)
   refine take_ (i := 5) (N := some 21) (v := ?_) (a' := ?_) #[true,true,true,false,true,true,false,false,false,false] rfl rfl (take_ofW HT_.out HW_.out (by kernel_rfl)) (fun _ _ _ h => h) (Or.inl ⟨by rfl, ?_⟩) hHeld ?_ ?_
   rotate_left; (· rintro w' ⟨s0, s1, s2⟩; go_simp; with_reducible rfl); rotate_left; (· simp only [Act.put, q6f5_1, q6f5_2, q6f5_3, i64_w, i32_w]; rfl)
   refine pure_ (i := 6) (N := some 22) (v := ?_) (a' := ?_) #[true,true,true,false,true,true,true,false,false,false] rfl rfl (any_of HT_.out (by kernel_rfl)) (fun _ _ _ h => h) (Or.inl ⟨by rfl, ?_⟩) ?_ ?_
   rotate_left; (· intro w'; go_simp; with_reducible rfl); rotate_left; (· simp only [Act.put, q6f5_1, q6f5_2, q6f5_3, i64_w, i32_w]; rfl)
   refine join_ (σ := Value × Value) 1 #[true,true,true,true,true,true,true,true,true,false] (fun s_ => [(19, s_.1), (23, s_.2), (7, s_.1)]) (fun s_ w' => (w'.cell? ⟨gb101, 0, none⟩ = some (.slice A0_0 l0_0.length c0_0) ∧ w'.cell? ⟨gb101, 1, none⟩ = some (.slice A0_1 l0_1.length c0_1) ∧ w'.cell? ⟨gb101, 2, none⟩ = some (.slice A0_2 l0_2.length c0_2)) ∧ (Kd.R (Kd.int .i64) 2 w' w.heap.size (fun k_ => some k_ ≠ (s_.1 : Value).ownBlock ∧ some k_ ≠ (s_.2 : Value).ownBlock) v104 y103) ∧ (Kd.R (Kd.int .i64) 2 w' w.heap.size (fun k_ => some k_ ≠ (v104 : Value).ownBlock ∧ some k_ ≠ (s_.2 : Value).ownBlock) s_.1 y106) ∧ (Kd.R (Kd.int .i64) 2 w' w.heap.size (fun k_ => some k_ ≠ (v104 : Value).ownBlock ∧ some k_ ≠ (s_.1 : Value).ownBlock) s_.2 y109) ∧ (w'.heap[gb101]? = some (.cells #[.slice A0_0 l0_0.length c0_0, .slice A0_1 l0_1.length c0_1, .slice A0_2 l0_2.length c0_2] 32 (0, 0))) ∧ (Below w.heap.size w w')) ?_ ?_
   rotate_left
   ·
    intro hCont
    refine two_ (i := 3) (j := 7) (Ni := some 19) (Nj := some 23) #[true,true,true,true,true,true,true,false,false,false] #[true,true,true,false,true,true,true,true,false,false] rfl rfl rfl rfl (two_of HT_.out (by kernel_rfl)) (by decide) (by decide) (fun K hK => ?_) (fun K hK => ?_)
    ·
     skip
     refine Kd.R_make_step (Kd.int .i64) _ 2 (by rfl) (N := 19) rfl 22 _ _ rfl (l0_0.length : Int) rfl rfl Try.underlying22 (.int .i64 0) 8 info2 rfl (by decide) (by omega) 0 (ok := fun _ => True) (okp := fun _ => True) rfl (fun _ hk => hk) trivial (of_decide_eq_true (by assumption)) (Nat.le_trans (Nat.mul_le_mul_right _ (of_decide_eq_true (by assumption) : (l0_0.length : Int).toNat ≤ 35184372088832)) (by omega)) (Below.refl _ _) (Nat.le_refl _) ?_
     intro v107 w11 ho12 hb hg_ hnew_
     clear hg_ hnew_
     (first | rw [← Ny106.out] at ho12 | (simp only [Int.reduceToNat] at ho12; rw [← Ny106.out] at ho12))
     have n0_ := Aside0.mk (Kd.R_elder' (by exact HO105.out) (Kd.R_base ho12) hb)
     have n1_ := Aside0.mk (Kd.R_lower (Kd.R_new' ho12 (Kd.R_lt (by exact HO105.out))) (below_size (by repeat (first | (with_reducible first | exact HB.out | apply below_alloc | apply pw_below_drewN | apply below_drew1 | refine below_set ?_ GE101.out) | exact HB.out))))
     have n2_ := Aside0.mk (blk_below (g := gb101) (o := .cells #[.slice A0_0 l0_0.length c0_0, .slice A0_1 l0_1.length c0_1, .slice A0_2 l0_2.length c0_2] 32 (0, 0)) (by (with_reducible repeat (first | refine blk_drewN ?_ _ | refine blk_drew ?_ | refine blk_alloc ?_ _)); exact BK101.out) hb)
     have n3_ := Aside0.mk (below_step (by repeat (first | (with_reducible first | exact HB.out | apply below_alloc | apply pw_below_drewN | apply below_drew1 | refine below_set ?_ GE101.out) | exact HB.out)) hb)
     clear HO105
     clear BK101
     clear HB
     have HO105 := n0_
     have HO108 := n1_
     have BK101 := n2_
     have HB := n3_
     clear n0_ n1_ n2_ n3_
     clear hb ho12
     refine hK.out _ _ ⟨(blk_cell BK101.out 0).trans rfl, (blk_cell BK101.out 1).trans rfl, (blk_cell BK101.out 2).trans rfl⟩ (fun hHeld => ?_)
     clear hK K
     refine norm_ (a' := ?_) ?_ ?_
     rotate_left
     ·
      show Act.put _ (some 19) _ = _
      simp only [Act.put, q6f5_1, q6f5_2, q6f5_3, i64_w, i32_w]
      rfl
     refine pure_ (i := 8) (N := some 7) (v := ?_) (a' := ?_) #[true,true,true,true,true,true,true,false,true,false] rfl rfl (any_of HT_.out (by kernel_rfl)) (fun _ _ _ h => h) (Or.inl ⟨by rfl, ?_⟩) ?_ ?_
     rotate_left; (· intro w'; go_simp; with_reducible rfl); rotate_left; (· simp only [Act.put, q6f5_1, q6f5_2, q6f5_3, i64_w, i32_w]; rfl)
     refine one_ (i := 7) (N := some 23) #[true,true,true,true,true,true,true,true,true,false] rfl rfl (one_of HT_.out (by kernel_rfl)) (by decide) (fun K hK => ?_)
     refine Kd.R_make_step (Kd.int .i64) _ 2 (by rfl) (N := 23) rfl 22 _ _ rfl (l0_0.length : Int) rfl rfl Try.underlying22 (.int .i64 0) 8 info2 rfl (by decide) (by omega) 0 (ok := fun _ => True) (okp := fun _ => True) rfl (fun _ hk => hk) trivial (of_decide_eq_true (by assumption)) (Nat.le_trans (Nat.mul_le_mul_right _ (of_decide_eq_true (by assumption) : (l0_0.length : Int).toNat ≤ 35184372088832)) (by omega)) (Below.refl _ _) (Nat.le_refl _) ?_
     intro v110 w13 ho14 hb hg_ hnew_
     clear hg_ hnew_
     (first | rw [← Ny109.out] at ho14 | (simp only [Int.reduceToNat] at ho14; rw [← Ny109.out] at ho14))
     have n0_ := Aside0.mk (Kd.R_elder' (by exact HO105.out) (Kd.R_base ho14) hb)
     have n1_ := Aside0.mk (Kd.R_elder' (by exact HO108.out) (Kd.R_base ho14) hb)
     have n2_ := Aside0.mk (Kd.R_lower (Kd.R_new' (Kd.R_new' ho14 (Kd.R_lt (by exact HO105.out))) (Kd.R_lt (by exact HO108.out))) (below_size (by repeat (first | (with_reducible first | exact HB.out | apply below_alloc | apply pw_below_drewN | apply below_drew1 | refine below_set ?_ GE101.out) | exact HB.out))))
     have n3_ := Aside0.mk (blk_below (g := gb101) (o := .cells #[.slice A0_0 l0_0.length c0_0, .slice A0_1 l0_1.length c0_1, .slice A0_2 l0_2.length c0_2] 32 (0, 0)) (by (with_reducible repeat (first | refine blk_drewN ?_ _ | refine blk_drew ?_ | refine blk_alloc ?_ _)); exact BK101.out) hb)
     have n4_ := Aside0.mk (below_step (by repeat (first | (with_reducible first | exact HB.out | apply below_alloc | apply pw_below_drewN | apply below_drew1 | refine below_set ?_ GE101.out) | exact HB.out)) hb)
     clear HO105
     clear HO108
     clear BK101
     clear HB
     have HO105 := n0_
     have HO108 := n1_
     have HO111 := n2_
     have BK101 := n3_
     have HB := n4_
     clear n0_ n1_ n2_ n3_ n4_
     clear hb ho14
     refine hK.out _ _ ⟨(blk_cell BK101.out 0).trans rfl, (blk_cell BK101.out 1).trans rfl, (blk_cell BK101.out 2).trans rfl⟩ (fun hHeld => ?_)
     clear hK K
     refine norm_ (a' := ?_) ?_ ?_
     rotate_left
     ·
      show Act.put _ (some 23) _ = _
      simp only [Act.put, q6f5_1, q6f5_2, q6f5_3, i64_w, i32_w]
      rfl
     exact norm_ (by simp only [putAll, Act.put, q6f5_1, q6f5_2, q6f5_3]) (hCont (v107, v110) _ ⟨hHeld, (by exact Kd.R_mono HO105.out (fun _ hk => ⟨hk.1.2, hk.2⟩)), (by exact Kd.R_mono HO108.out (fun _ hk => ⟨hk.1.2, hk.2⟩)), (by exact Kd.R_mono HO111.out (fun _ hk => ⟨hk.1.2, hk.2⟩)), (by (with_reducible repeat (first | refine blk_drewN ?_ _ | refine blk_drew ?_ | refine blk_alloc ?_ _)); exact BK101.out), (by repeat (first | (with_reducible first | exact HB.out | apply below_alloc | apply pw_below_drewN | apply below_drew1 | refine below_set ?_ GE101.out) | exact HB.out))⟩)
    ·
     skip
     refine Kd.R_make_step (Kd.int .i64) _ 2 (by rfl) (N := 23) rfl 22 _ _ rfl (l0_0.length : Int) rfl rfl Try.underlying22 (.int .i64 0) 8 info2 rfl (by decide) (by omega) 0 (ok := fun _ => True) (okp := fun _ => True) rfl (fun _ hk => hk) trivial (of_decide_eq_true (by assumption)) (Nat.le_trans (Nat.mul_le_mul_right _ (of_decide_eq_true (by assumption) : (l0_0.length : Int).toNat ≤ 35184372088832)) (by omega)) (Below.refl _ _) (Nat.le_refl _) ?_
     intro v110 w11 ho12 hb hg_ hnew_
     clear hg_ hnew_
     (first | rw [← Ny109.out] at ho12 | (simp only [Int.reduceToNat] at ho12; rw [← Ny109.out] at ho12))
     have n0_ := Aside0.mk (Kd.R_elder' (by exact HO105.out) (Kd.R_base ho12) hb)
     have n1_ := Aside0.mk (Kd.R_lower (Kd.R_new' ho12 (Kd.R_lt (by exact HO105.out))) (below_size (by repeat (first | (with_reducible first | exact HB.out | apply below_alloc | apply pw_below_drewN | apply below_drew1 | refine below_set ?_ GE101.out) | exact HB.out))))
     have n2_ := Aside0.mk (blk_below (g := gb101) (o := .cells #[.slice A0_0 l0_0.length c0_0, .slice A0_1 l0_1.length c0_1, .slice A0_2 l0_2.length c0_2] 32 (0, 0)) (by (with_reducible repeat (first | refine blk_drewN ?_ _ | refine blk_drew ?_ | refine blk_alloc ?_ _)); exact BK101.out) hb)
     have n3_ := Aside0.mk (below_step (by repeat (first | (with_reducible first | exact HB.out | apply below_alloc | apply pw_below_drewN | apply below_drew1 | refine below_set ?_ GE101.out) | exact HB.out)) hb)
     clear HO105
     clear BK101
     clear HB
     have HO105 := n0_
     have HO111 := n1_
     have BK101 := n2_
     have HB := n3_
     clear n0_ n1_ n2_ n3_
     clear hb ho12
     refine hK.out _ _ ⟨(blk_cell BK101.out 0).trans rfl, (blk_cell BK101.out 1).trans rfl, (blk_cell BK101.out 2).trans rfl⟩ (fun hHeld => ?_)
     clear hK K
     refine norm_ (a' := ?_) ?_ ?_
     rotate_left
     ·
      show Act.put _ (some 23) _ = _
      simp only [Act.put, q6f5_1, q6f5_2, q6f5_3, i64_w, i32_w]
      rfl
     refine one_ (i := 3) (N := some 19) #[true,true,true,true,true,true,true,true,false,false] rfl rfl (one_of HT_.out (by kernel_rfl)) (by decide) (fun K hK => ?_)
     refine Kd.R_make_step (Kd.int .i64) _ 2 (by rfl) (N := 19) rfl 22 _ _ rfl (l0_0.length : Int) rfl rfl Try.underlying22 (.int .i64 0) 8 info2 rfl (by decide) (by omega) 0 (ok := fun _ => True) (okp := fun _ => True) rfl (fun _ hk => hk) trivial (of_decide_eq_true (by assumption)) (Nat.le_trans (Nat.mul_le_mul_right _ (of_decide_eq_true (by assumption) : (l0_0.length : Int).toNat ≤ 35184372088832)) (by omega)) (Below.refl _ _) (Nat.le_refl _) ?_
     intro v107 w13 ho14 hb hg_ hnew_
     clear hg_ hnew_
     (first | rw [← Ny106.out] at ho14 | (simp only [Int.reduceToNat] at ho14; rw [← Ny106.out] at ho14))
     have n0_ := Aside0.mk (Kd.R_elder' (by exact HO105.out) (Kd.R_base ho14) hb)
     have n1_ := Aside0.mk (Kd.R_elder' (by exact HO111.out) (Kd.R_base ho14) hb)
     have n2_ := Aside0.mk (Kd.R_lower (Kd.R_new' (Kd.R_new' ho14 (Kd.R_lt (by exact HO105.out))) (Kd.R_lt (by exact HO111.out))) (below_size (by repeat (first | (with_reducible first | exact HB.out | apply below_alloc | apply pw_below_drewN | apply below_drew1 | refine below_set ?_ GE101.out) | exact HB.out))))
     have n3_ := Aside0.mk (blk_below (g := gb101) (o := .cells #[.slice A0_0 l0_0.length c0_0, .slice A0_1 l0_1.length c0_1, .slice A0_2 l0_2.length c0_2] 32 (0, 0)) (by (with_reducible repeat (first | refine blk_drewN ?_ _ | refine blk_drew ?_ | refine blk_alloc ?_ _)); exact BK101.out) hb)
     have n4_ := Aside0.mk (below_step (by repeat (first | (with_reducible first | exact HB.out | apply below_alloc | apply pw_below_drewN | apply below_drew1 | refine below_set ?_ GE101.out) | exact HB.out)) hb)
     clear HO105
     clear HO111
     clear BK101
     clear HB
     have HO105 := n0_
     have HO111 := n1_
     have HO108 := n2_
     have BK101 := n3_
     have HB := n4_
     clear n0_ n1_ n2_ n3_ n4_
     clear hb ho14
     refine hK.out _ _ ⟨(blk_cell BK101.out 0).trans rfl, (blk_cell BK101.out 1).trans rfl, (blk_cell BK101.out 2).trans rfl⟩ (fun hHeld => ?_)
     clear hK K
     refine norm_ (a' := ?_) ?_ ?_
     rotate_left
     ·
      show Act.put _ (some 19) _ = _
      simp only [Act.put, q6f5_1, q6f5_2, q6f5_3, i64_w, i32_w]
      rfl
     refine pure_ (i := 8) (N := some 7) (v := ?_) (a' := ?_) #[true,true,true,true,true,true,true,true,true,false] rfl rfl (any_of HT_.out (by kernel_rfl)) (fun _ _ _ h => h) (Or.inl ⟨by rfl, ?_⟩) ?_ ?_
     rotate_left; (· intro w'; go_simp; with_reducible rfl); rotate_left; (· simp only [Act.put, q6f5_1, q6f5_2, q6f5_3, i64_w, i32_w]; rfl)
     exact norm_ (by simp only [putAll, Act.put, q6f5_1, q6f5_2, q6f5_3]) (hCont (v107, v110) _ ⟨hHeld, (by exact Kd.R_mono HO105.out (fun _ hk => ⟨hk.2, hk.1.2⟩)), (by exact Kd.R_mono HO108.out (fun _ hk => ⟨hk.1.2, hk.2⟩)), (by exact Kd.R_mono HO111.out (fun _ hk => ⟨hk.1.2, hk.2⟩)), (by (with_reducible repeat (first | refine blk_drewN ?_ _ | refine blk_drew ?_ | refine blk_alloc ?_ _)); exact BK101.out), (by repeat (first | (with_reducible first | exact HB.out | apply below_alloc | apply pw_below_drewN | apply below_drew1 | refine below_set ?_ GE101.out) | exact HB.out))⟩)
   rintro ⟨v107, v110⟩ w15 ⟨hS_, h0_, h1_, h2_, h3_, h4_⟩
   have n0_ : Aside0 (Kd.R (Kd.int .i64) 2 w15 w.heap.size (fun k_ => some k_ ≠ (v107 : Value).ownBlock ∧ some k_ ≠ (v110 : Value).ownBlock) v104 y103) := ⟨h0_⟩
   have n1_ : Aside0 (Kd.R (Kd.int .i64) 2 w15 w.heap.size (fun k_ => some k_ ≠ (v104 : Value).ownBlock ∧ some k_ ≠ (v110 : Value).ownBlock) v107 y106) := ⟨h1_⟩
   have n2_ : Aside0 (Kd.R (Kd.int .i64) 2 w15 w.heap.size (fun k_ => some k_ ≠ (v104 : Value).ownBlock ∧ some k_ ≠ (v107 : Value).ownBlock) v110 y109) := ⟨h2_⟩
   have n3_ : Aside0 (w15.heap[gb101]? = some (.cells #[.slice A0_0 l0_0.length c0_0, .slice A0_1 l0_1.length c0_1, .slice A0_2 l0_2.length c0_2] 32 (0, 0))) := ⟨h3_⟩
   have n4_ : Aside0 (Below w.heap.size w w15) := ⟨h4_⟩
   clear HO105
   clear BK101
   clear HB
   clear h0_ h1_ h2_ h3_ h4_
   have HO105 := n0_
   have HO108 := n1_
   have HO111 := n2_
   have BK101 := n3_
   have HB := n4_
   clear n0_ n1_ n2_ n3_ n4_
   have hHeld : w15.cell? ⟨gb101, 0, none⟩ = some (.slice A0_0 l0_0.length c0_0) ∧ w15.cell? ⟨gb101, 1, none⟩ = some (.slice A0_1 l0_1.length c0_1) ∧ w15.cell? ⟨gb101, 2, none⟩ = some (.slice A0_2 l0_2.length c0_2) := hS_
   refine norm_ (a' := ?_) ?_ ?_
   rotate_left
   ·
    simp only [putAll, Act.put, q6f5_1, q6f5_2, q6f5_3]
    rfl
   refine pure_ (i := 9) (N := some 8) (v := ?_) (a' := ?_) #[true,true,true,true,true,true,true,true,true,true] rfl rfl (any_of HT_.out (by kernel_rfl)) (fun _ _ _ h => h) (Or.inl ⟨by rfl, ?_⟩) ?_ ?_
   rotate_left; (· intro w'; go_simp; with_reducible rfl); rotate_left; (· simp only [Act.put, q6f5_1, q6f5_2, q6f5_3, i64_w, i32_w]; rfl)
   refine done_ (done_of HT_.out (by kernel_rfl)) ?_
   try go_wp2
   go_loopg [6, 9] k (fun kq v6 v9 w' => ∃ (x6_1 : List Int) (x7_1 : List Int) (x8_1 : List Int) (x9_1 : Int), v9 = .int .i64 x9_1 ∧ Aside0 (spec_l04Slots.l0 kq t102 x6_1 x7_1 x8_1 x9_1 l0_0 l0_1 l0_2 = some (r1, r2, r3)) ∧ Aside0 (kq ≤ k) ∧ Aside0 (Kd.R (Kd.int .i64) 2 w' w.heap.size (fun k_ => some k_ ≠ (v107 : Value).ownBlock ∧ some k_ ≠ (v110 : Value).ownBlock) v6 x6_1) ∧ Aside0 (Kd.R (Kd.int .i64) 2 w' w.heap.size (fun k_ => some k_ ≠ (v6 : Value).ownBlock ∧ some k_ ≠ (v110 : Value).ownBlock) v107 x7_1) ∧ Aside0 (Kd.R (Kd.int .i64) 2 w' w.heap.size (fun k_ => some k_ ≠ (v6 : Value).ownBlock ∧ some k_ ≠ (v107 : Value).ownBlock) v110 x8_1) ∧ Aside0 (w'.heap[gb101]? = some (.cells #[(.slice A0_0 l0_0.length c0_0), (.slice A0_1 l0_1.length c0_1), (.slice A0_2 l0_2.length c0_2)] 32 (0, 0))) ∧ Aside0 (Below w.heap.size w w'))
   case atStart => exact ⟨(y103), (y106), (y109), (0), (by first | rfl | simp), H', ⟨Nat.le_refl _⟩, ⟨by exact HO105.out⟩, ⟨by exact HO108.out⟩, ⟨by exact HO111.out⟩, ⟨by (with_reducible repeat (first | refine blk_drewN ?_ _ | refine blk_drew ?_ | refine blk_alloc ?_ _)); exact BK101.out⟩, ⟨by repeat (first | (with_reducible first | exact HB.out | apply below_alloc | apply pw_below_drewN | apply below_drew1 | refine below_set ?_ GE101.out) | exact HB.out)⟩⟩
   case round =>
    clear H'
    try clear c1
    try clear p2
    try clear c3
    try clear c3b0
    try clear c3b1
    try clear c4
    try clear c4b0
    try clear c4b1
    try clear c6
    try clear c12
    try clear hcz6_0
    try clear hcz6_1
    try clear hcz6_2
    try clear hfz6_0
    try clear hfz6_1
    try clear hfz6_2
    obtain ⟨x6_1, x7_1, x8_1, x9_1, rfl, HA, HK1, HO_6, HO_7, HO_8, BK101, HB⟩ := hrel
    cases gk with
    | zero => exact absurd HA.out (by simp [spec_l04Slots.l0])
    | succ k1 =>
     have H := HA.out
     clear HA
     simp only [spec_l04Slots.l0] at H
     by_cases c16 : x9_1 ≤ t102
     ·
      rw [if_pos c16] at H
      have c16b0 : decide (x9_1 ≤ t102) = true := decide_eq_true c16
      clear c16
      have H' := Aside0.mk H
      clear H
      go_wp2
      go_loopg [10] k1 (fun kq v10 w' => ∃ (x10_2 : Int), v10 = .int .i64 x10_2 ∧ Aside0 (spec_l04Slots.l1 kq t102 x6_1 x7_1 x8_1 x9_1 x10_2 l0_0 l0_1 l0_2 = some (r1, r2, r3)) ∧ Aside0 (kq ≤ k1) ∧ Aside0 (Kd.R (Kd.int .i64) 2 w' w.heap.size (fun k_ => some k_ ≠ (v107 : Value).ownBlock ∧ some k_ ≠ (v110 : Value).ownBlock) u6 x6_1) ∧ Aside0 (Kd.R (Kd.int .i64) 2 w' w.heap.size (fun k_ => some k_ ≠ (u6 : Value).ownBlock ∧ some k_ ≠ (v110 : Value).ownBlock) v107 x7_1) ∧ Aside0 (Kd.R (Kd.int .i64) 2 w' w.heap.size (fun k_ => some k_ ≠ (u6 : Value).ownBlock ∧ some k_ ≠ (v107 : Value).ownBlock) v110 x8_1) ∧ Aside0 (w'.heap[gb101]? = some (.cells #[(.slice A0_0 l0_0.length c0_0), (.slice A0_1 l0_1.length c0_1), (.slice A0_2 l0_2.length c0_2)] 32 (0, 0))) ∧ Aside0 (Below w.heap.size w w'))
      case atStart => exact ⟨(0), (by first | rfl | simp), H', ⟨Nat.le_refl _⟩, ⟨by exact HO_6.out⟩, ⟨by exact HO_7.out⟩, ⟨by exact HO_8.out⟩, ⟨by (with_reducible repeat (first | refine blk_drewN ?_ _ | refine blk_drew ?_ | refine blk_alloc ?_ _)); exact BK101.out⟩, ⟨by repeat (first | (with_reducible first | exact HB.out | apply below_alloc | apply pw_below_drewN | apply below_drew1 | refine below_set ?_ GE101.out) | exact HB.out)⟩⟩
      case round =>
       clear H'
       try clear c1
       try clear p2
       try clear c3
       try clear c3b0
       try clear c3b1
       try clear c4
       try clear c4b0
       try clear c4b1
       try clear c6
       try clear c12
       try clear c16
       try clear c16b0
       try clear hcz6_0
       try clear hcz6_1
       try clear hcz6_2
       try clear hfz6_0
       try clear hfz6_1
       try clear hfz6_2
       try clear p2
       obtain ⟨x10_2, rfl, HA, HK2, HO_6, HO_7, HO_8, BK101, HB⟩ := hrel
       cases gk with
       | zero => exact absurd HA.out (by simp [spec_l04Slots.l1])
       | succ k2 =>
        have H := HA.out
        clear HA
        simp only [spec_l04Slots.l1] at H
        by_cases c17 : x10_2 < (x7_1.length : Int)
        ·
         rw [if_pos c17] at H
         have c17b0 : decide (x10_2 < (x7_1.length : Int)) = true := decide_eq_true c17
         clear c17
         by_cases c18 : 0 ≤ x10_2
         ·
          rw [if_pos c18] at H
          have c18b0 : decide (0 ≤ x10_2) = true := decide_eq_true c18
          clear c18
          by_cases c19 : (rd x7_1 x10_2) > 0
          ·
           rw [if_pos c19] at H
           have c19b0 : decide (0 < (rd x7_1 x10_2)) = true := decide_eq_true c19
           clear c19
           by_cases c20 : x10_2 < (x8_1.length : Int)
           ·
            rw [if_pos c20] at H
            have c20b0 : decide (x10_2 < (x8_1.length : Int)) = true := decide_eq_true c20
            clear c20
            by_cases c21 : (rd x8_1 x10_2) = x9_1
            ·
             rw [if_pos c21] at H
             have c21b0 : ((rd x8_1 x10_2) == x9_1) = true := beq_iff_eq.mpr c21
             have c21b1 : ((rd x8_1 x10_2) != x9_1) = false := bne_eq_false_iff_eq.mpr c21
             clear c21
             simp only [Option.some.injEq, Prod.mk.injEq] at H
             obtain ⟨rfl, rfl, rfl⟩ := H
             obtain ⟨Ao22, co22, eo22⟩ := Kd.R_slice HO_7.out
             subst eo22
             have p112 : 0 ≤ (x10_2 : Int) := of_decide_eq_true (by assumption)
             have q112 : x10_2 < (x7_1.length : Int) := of_decide_eq_true (by assumption)
             obtain ⟨ad112, e112, hx112_0⟩ := Kd.at_int (Kd.R_reads' HO_7.out).2.2 x10_2 p112 q112
             cases e112
             replace p112 := eq_true p112
             replace q112 := eq_true q112
             obtain ⟨Ao23, co23, eo23⟩ := Kd.R_slice HO_8.out
             subst eo23
             have p113 : 0 ≤ (x10_2 : Int) := of_decide_eq_true (by assumption)
             have q113 : x10_2 < (x8_1.length : Int) := of_decide_eq_true (by assumption)
             obtain ⟨ad113, e113, hx113_0⟩ := Kd.at_int (Kd.R_reads' HO_8.out).2.2 x10_2 p113 q113
             cases e113
             replace p113 := eq_true p113
             replace q113 := eq_true q113
             go_wp2
             go_ret3
             exact ⟨_, by first | rfl | (simp [errW_none, errW_some] <;> rfl) | (simp [*, errW_none, errW_some] <;> rfl), by exact Kd.R_mono HO_6.out (fun _ hk => trivial), by repeat (first | (with_reducible first | exact HB.out | apply below_alloc | apply pw_below_drewN | apply below_drew1 | refine below_set ?_ GE101.out) | exact HB.out)⟩
            ·
             rw [if_neg c21] at H
             have c21b0 : ((rd x8_1 x10_2) == x9_1) = false := beq_eq_false_iff_ne.mpr c21
             have c21b1 : ((rd x8_1 x10_2) != x9_1) = true := bne_iff_ne.mpr c21
             have H' := Aside0.mk H
             clear H
             obtain ⟨Ao24, co24, eo24⟩ := Kd.R_slice HO_7.out
             subst eo24
             have p112 : 0 ≤ (x10_2 : Int) := of_decide_eq_true (by assumption)
             have q112 : x10_2 < (x7_1.length : Int) := of_decide_eq_true (by assumption)
             obtain ⟨ad112, e112, hx112_0⟩ := Kd.at_int (Kd.R_reads' HO_7.out).2.2 x10_2 p112 q112
             cases e112
             replace p112 := eq_true p112
             replace q112 := eq_true q112
             obtain ⟨Ao25, co25, eo25⟩ := Kd.R_slice HO_8.out
             subst eo25
             have p113 : 0 ≤ (x10_2 : Int) := of_decide_eq_true (by assumption)
             have q113 : x10_2 < (x8_1.length : Int) := of_decide_eq_true (by assumption)
             obtain ⟨ad113, e113, hx113_0⟩ := Kd.at_int (Kd.R_reads' HO_8.out).2.2 x10_2 p113 q113
             cases e113
             replace p113 := eq_true p113
             replace q113 := eq_true q113
             go_wp2
             go_roundg k2
             case measure => have := HK1.out; have := HK2.out; omega
             case rel => exact ⟨(wrap64 (x10_2 + 1)), (by first | rfl | simp), H', ⟨by have := HK1.out; have := HK2.out; omega⟩, ⟨by exact HO_6.out⟩, ⟨by exact HO_7.out⟩, ⟨by exact HO_8.out⟩, ⟨by (with_reducible repeat (first | refine blk_drewN ?_ _ | refine blk_drew ?_ | refine blk_alloc ?_ _)); exact BK101.out⟩, ⟨by repeat (first | (with_reducible first | exact HB.out | apply below_alloc | apply pw_below_drewN | apply below_drew1 | refine below_set ?_ GE101.out) | exact HB.out)⟩⟩
           ·
            rw [if_neg c20] at H
            exact absurd H (by simp)
          ·
           rw [if_neg c19] at H
           have c19b0 : decide (0 < (rd x7_1 x10_2)) = false := decide_eq_false c19
           clear c19
           have H' := Aside0.mk H
           clear H
           obtain ⟨Ao26, co26, eo26⟩ := Kd.R_slice HO_7.out
           subst eo26
           have p112 : 0 ≤ (x10_2 : Int) := of_decide_eq_true (by assumption)
           have q112 : x10_2 < (x7_1.length : Int) := of_decide_eq_true (by assumption)
           obtain ⟨ad112, e112, hx112_0⟩ := Kd.at_int (Kd.R_reads' HO_7.out).2.2 x10_2 p112 q112
           cases e112
           replace p112 := eq_true p112
           replace q112 := eq_true q112
           go_wp2
           go_roundg k2
           case measure => have := HK1.out; have := HK2.out; omega
           case rel => exact ⟨(wrap64 (x10_2 + 1)), (by first | rfl | simp), H', ⟨by have := HK1.out; have := HK2.out; omega⟩, ⟨by exact HO_6.out⟩, ⟨by exact HO_7.out⟩, ⟨by exact HO_8.out⟩, ⟨by (with_reducible repeat (first | refine blk_drewN ?_ _ | refine blk_drew ?_ | refine blk_alloc ?_ _)); exact BK101.out⟩, ⟨by repeat (first | (with_reducible first | exact HB.out | apply below_alloc | apply pw_below_drewN | apply below_drew1 | refine below_set ?_ GE101.out) | exact HB.out)⟩⟩
         ·
          rw [if_neg c18] at H
          exact absurd H (by simp)
        ·
         rw [if_neg c17] at H
         have c17b0 : decide (x10_2 < (x7_1.length : Int)) = false := decide_eq_false c17
         clear c17
         by_cases c27 : x9_1 = t102
         ·
          rw [if_pos c27] at H
          have c27b0 : (x9_1 == t102) = true := beq_iff_eq.mpr c27
          have c27b1 : (x9_1 != t102) = false := bne_eq_false_iff_eq.mpr c27
          clear c27
          simp only [Option.some.injEq, Prod.mk.injEq] at H
          obtain ⟨rfl, rfl, rfl⟩ := H
          obtain ⟨Ao28, co28, eo28⟩ := Kd.R_slice HO_7.out
          subst eo28
          go_wp2
          go_ret3
          exact ⟨_, by first | rfl | (simp [errW_none, errW_some] <;> rfl) | (simp [*, errW_none, errW_some] <;> rfl), by exact Kd.R_mono HO_6.out (fun _ hk => trivial), by repeat (first | (with_reducible first | exact HB.out | apply below_alloc | apply pw_below_drewN | apply below_drew1 | refine below_set ?_ GE101.out) | exact HB.out)⟩
         ·
          rw [if_neg c27] at H
          have c27b0 : (x9_1 == t102) = false := beq_eq_false_iff_ne.mpr c27
          have c27b1 : (x9_1 != t102) = true := bne_iff_ne.mpr c27
          have H' := Aside0.mk H
          clear H
          obtain ⟨Ao29, co29, eo29⟩ := Kd.R_slice HO_7.out
          subst eo29
          go_wp2
          go_loopg [11, 12] k2 (fun kq v11 v12 w' => ∃ (x7_3 : List Int) (x8_3 : List Int) (x11_3 : Int) (x12_3 : Int), v11 = .int .i64 x11_3 ∧ v12 = .int .i64 x12_3 ∧ Aside0 (spec_l04Slots.l2 kq t102 x6_1 x7_3 x8_3 x9_1 x11_3 x12_3 l0_0 l0_1 l0_2 = some (r1, r2, r3)) ∧ Aside0 (kq ≤ k2) ∧ Aside0 (Kd.R (Kd.int .i64) 2 w' w.heap.size (fun k_ => some k_ ≠ ((.slice Ao29 x7_1.length co29) : Value).ownBlock ∧ some k_ ≠ (v110 : Value).ownBlock) u6 x6_1) ∧ Aside0 (Kd.R (Kd.int .i64) 2 w' w.heap.size (fun k_ => some k_ ≠ (u6 : Value).ownBlock ∧ some k_ ≠ (v110 : Value).ownBlock) (.slice Ao29 x7_1.length co29) x7_3) ∧ Aside0 (Kd.R (Kd.int .i64) 2 w' w.heap.size (fun k_ => some k_ ≠ (u6 : Value).ownBlock ∧ some k_ ≠ ((.slice Ao29 x7_1.length co29) : Value).ownBlock) v110 x8_3) ∧ Aside0 (w'.heap[gb101]? = some (.cells #[(.slice A0_0 l0_0.length c0_0), (.slice A0_1 l0_1.length c0_1), (.slice A0_2 l0_2.length c0_2)] 32 (0, 0))) ∧ Aside0 (Below w.heap.size w w'))
          case atStart => exact ⟨(x7_1), (x8_1), ((-1)), (0), (by first | rfl | simp), (by first | rfl | simp), H', ⟨Nat.le_refl _⟩, ⟨by exact HO_6.out⟩, ⟨by exact HO_7.out⟩, ⟨by exact HO_8.out⟩, ⟨by (with_reducible repeat (first | refine blk_drewN ?_ _ | refine blk_drew ?_ | refine blk_alloc ?_ _)); exact BK101.out⟩, ⟨by repeat (first | (with_reducible first | exact HB.out | apply below_alloc | apply pw_below_drewN | apply below_drew1 | refine below_set ?_ GE101.out) | exact HB.out)⟩⟩
          case round =>
           clear H'
           try clear c1
           try clear p1
           try clear q1
           try clear hx1
           try clear c2
           try clear p2
           try clear c3
           try clear c3b0
           try clear c3b1
           try clear c4
           try clear c4b0
           try clear c4b1
           try clear c6
           try clear p6
           try clear p11
           try clear q11
           try clear hx11
           try clear c12
           try clear c16
           try clear c16b0
           try clear c17
           try clear c17b0
           try clear c18
           try clear c18b0
           try clear c19
           try clear c19b0
           try clear c20
           try clear c20b0
           try clear c21
           try clear c21b0
           try clear c21b1
           try clear c27
           try clear c27b0
           try clear c27b1
           try clear hcz6_0
           try clear hcz6_1
           try clear hcz6_2
           try clear hfz6_0
           try clear hfz6_1
           try clear hfz6_2
           try clear hx112_0
           try clear hx113_0
           try clear p112
           try clear p113
           try clear p2
           try clear q112
           try clear q113
           obtain ⟨x7_3, x8_3, x11_3, x12_3, rfl, rfl, HA, HK3, HO_6, HO_7, HO_8, BK101, HB⟩ := hrel
           have hl7_3 := (Kd.R_reads' HO_7.out).1
           rw [hl7_3] at HO_7
           (try simp only [hl7_3])
           (try simp only [hl7_3] at BK101)
           (try simp only [hl7_3] at HO_6)
           (try simp only [hl7_3] at HO_8)
           cases gk with
           | zero => exact absurd HA.out (by simp [spec_l04Slots.l2])
           | succ k3 =>
            have H := HA.out
            clear HA
            simp only [spec_l04Slots.l2] at H
            by_cases c30 : x12_3 < (x7_3.length : Int)
            ·
             rw [if_pos c30] at H
             have c30b0 : decide (x12_3 < (x7_3.length : Int)) = true := decide_eq_true c30
             clear c30
             by_cases c31 : 0 ≤ x12_3
             ·
              rw [if_pos c31] at H
              have c31b0 : decide (0 ≤ x12_3) = true := decide_eq_true c31
              clear c31
              by_cases c32 : x12_3 < (l0_1.length : Int)
              ·
               rw [if_pos c32] at H
               have c32b0 : decide (x12_3 < (l0_1.length : Int)) = true := decide_eq_true c32
               clear c32
               by_cases c33 : (rd l0_1 x12_3) = 0
               ·
                rw [if_pos c33] at H
                exact absurd H (by simp)
               ·
                rw [if_neg c33] at H
                have c33b0 : ((rd l0_1 x12_3) == 0) = false := beq_eq_false_iff_ne.mpr c33
                have c33b1 : ((rd l0_1 x12_3) != 0) = true := bne_iff_ne.mpr c33
                by_cases c34 : (Int.tmod x9_1 (rd l0_1 x12_3)) = 0
                ·
                 rw [if_pos c34] at H
                 have c34b0 : ((Int.tmod x9_1 (rd l0_1 x12_3)) == 0) = true := beq_iff_eq.mpr c34
                 have c34b1 : ((Int.tmod x9_1 (rd l0_1 x12_3)) != 0) = false := bne_eq_false_iff_eq.mpr c34
                 clear c34
                 by_cases c35 : x12_3 < (l0_0.length : Int)
                 ·
                  rw [if_pos c35] at H
                  have c35b0 : decide (x12_3 < (l0_0.length : Int)) = true := decide_eq_true c35
                  clear c35
                  obtain ⟨y124, hy124⟩ : ∃ y_ : List Int, y_ = (x7_3.set (x12_3 : Int).toNat (rd l0_0 x12_3)) := ⟨_, rfl⟩
                  replace H : (if x12_3 < (l0_2.length : Int) then (if x12_3 < (x8_3.length : Int) then ((some (x8_3.set (x12_3 : Int).toNat (wrap64 (x9_1 + (rd l0_2 x12_3))) : List Int)).bind fun y126 => (if (rd y124 x12_3) > 0 then (if x11_3 < 0 then (spec_l04Slots.l2 k3 t102 x6_1 y124 y126 x9_1 x12_3 (wrap64 (x12_3 + 1)) l0_0 l0_1 l0_2) else (if 0 ≤ x11_3 then (if x11_3 < (x8_3.length : Int) then (if (rd y126 x12_3) < (rd y126 x11_3) then (spec_l04Slots.l2 k3 t102 x6_1 y124 y126 x9_1 x12_3 (wrap64 (x12_3 + 1)) l0_0 l0_1 l0_2) else (spec_l04Slots.l2 k3 t102 x6_1 y124 y126 x9_1 x11_3 (wrap64 (x12_3 + 1)) l0_0 l0_1 l0_2)) else (none)) else (none))) else (spec_l04Slots.l2 k3 t102 x6_1 y124 y126 x9_1 x11_3 (wrap64 (x12_3 + 1)) l0_0 l0_1 l0_2))) else (none)) else (none)) = some (r1, r2, r3) := by first | (rw [hy124]; with_reducible exact H) | (have H2_ := (Option.bind_some _ _).symm.trans H; rw [hy124]; with_reducible exact H2_) | (have H2_ := (Option.bind_some _ _).symm.trans H; with_reducible exact H2_) | with_reducible exact H | (rw [hy124]; exact H) | exact H
                  have Ny124 := Aside0.mk hy124
                  clear hy124
                  by_cases c37 : x12_3 < (l0_2.length : Int)
                  ·
                   rw [if_pos c37] at H
                   have c37b0 : decide (x12_3 < (l0_2.length : Int)) = true := decide_eq_true c37
                   clear c37
                   by_cases c38 : x12_3 < (x8_3.length : Int)
                   ·
                    rw [if_pos c38] at H
                    have c38b0 : decide (x12_3 < (x8_3.length : Int)) = true := decide_eq_true c38
                    clear c38
                    obtain ⟨y126, hy126⟩ : ∃ y_ : List Int, y_ = (x8_3.set (x12_3 : Int).toNat (wrap64 (x9_1 + (rd l0_2 x12_3)))) := ⟨_, rfl⟩
                    replace H : (if (rd y124 x12_3) > 0 then (if x11_3 < 0 then (spec_l04Slots.l2 k3 t102 x6_1 y124 y126 x9_1 x12_3 (wrap64 (x12_3 + 1)) l0_0 l0_1 l0_2) else (if 0 ≤ x11_3 then (if x11_3 < (x8_3.length : Int) then (if (rd y126 x12_3) < (rd y126 x11_3) then (spec_l04Slots.l2 k3 t102 x6_1 y124 y126 x9_1 x12_3 (wrap64 (x12_3 + 1)) l0_0 l0_1 l0_2) else (spec_l04Slots.l2 k3 t102 x6_1 y124 y126 x9_1 x11_3 (wrap64 (x12_3 + 1)) l0_0 l0_1 l0_2)) else (none)) else (none))) else (spec_l04Slots.l2 k3 t102 x6_1 y124 y126 x9_1 x11_3 (wrap64 (x12_3 + 1)) l0_0 l0_1 l0_2)) = some (r1, r2, r3) := by first | (rw [hy126]; with_reducible exact H) | (have H2_ := (Option.bind_some _ _).symm.trans H; rw [hy126]; with_reducible exact H2_) | (have H2_ := (Option.bind_some _ _).symm.trans H; with_reducible exact H2_) | with_reducible exact H | (rw [hy126]; exact H) | exact H
                    have Ny126 := Aside0.mk hy126
                    clear hy126
                    by_cases c40 : (rd y124 x12_3) > 0
                    ·
                     rw [if_pos c40] at H
                     have c40b0 : decide (0 < (rd y124 x12_3)) = true := decide_eq_true c40
                     clear c40
                     by_cases c41 : x11_3 < 0
                     ·
                      rw [if_pos c41] at H
                      have c41b0 : decide (x11_3 < 0) = true := decide_eq_true c41
                      clear c41
                      have H' := Aside0.mk H
                      clear H
                      have hcz42_0 : wr.cell? ⟨gb101, 0, none⟩ = some (.slice A0_0 l0_0.length c0_0) := (blk_cell BK101.out 0).trans rfl
                      have hcz42_1 : wr.cell? ⟨gb101, 1, none⟩ = some (.slice A0_1 l0_1.length c0_1) := (blk_cell BK101.out 1).trans rfl
                      have hcz42_2 : wr.cell? ⟨gb101, 2, none⟩ = some (.slice A0_2 l0_2.length c0_2) := (blk_cell BK101.out 2).trans rfl
                      have hfz42_0 := blk_frozen BK101.out 0
                      have hfz42_1 := blk_frozen BK101.out 1
                      have hfz42_2 := blk_frozen BK101.out 2
                      have p122 : 0 ≤ (x12_3 : Int) := of_decide_eq_true (by assumption)
                      have q122 : x12_3 < (l0_1.length : Int) := of_decide_eq_true (by assumption)
                      obtain ⟨ad122, e122, hx122_0⟩ := Kd.at_int HR0_1.out x12_3 p122 q122
                      cases e122
                      replace hx122_0 := (HB.out.cell (World.block_lt_of_cell? w _ hx122_0)).trans hx122_0
                      replace p122 := eq_true p122
                      replace q122 := eq_true q122
                      have p123 : 0 ≤ (x12_3 : Int) := of_decide_eq_true (by assumption)
                      have q123 : x12_3 < (l0_0.length : Int) := of_decide_eq_true (by assumption)
                      obtain ⟨ad123, e123, hx123_0⟩ := Kd.at_int HR0_0.out x12_3 p123 q123
                      cases e123
                      replace hx123_0 := (HB.out.cell (World.block_lt_of_cell? w _ hx123_0)).trans hx123_0
                      replace p123 := eq_true p123
                      replace q123 := eq_true q123
                      have p36 : 0 ≤ (x12_3 : Int) := of_decide_eq_true (by assumption)
                      have q36 : (x12_3 : Int) < ((x7_3.length : Int) : Int) := of_decide_eq_true (by assumption)
                      obtain ⟨go36, co36, eo36, gb36, gl36, cl36, HG36⟩ := Kd.R_form HO_7.out (by omega)
                      (first | cases eo36 | (injection eo36 with ea_ en_ ec_; (first | subst ea_ | (injection ea_ with ea_; subst ea_)); subst ec_; clear en_))
                      have GB36 := Aside0.mk gb36
                      have GG36 := Aside0.mk HG36
                      clear gb36 gl36 HG36
                      obtain ⟨hx36_0, hf36_0⟩ := Kd.R_celln 0 HO_7.out (x12_3 : Int) p36 q36
                      replace p36 := eq_true p36
                      replace q36 := eq_true q36
                      have HP43 := Kd.R_putg HO_7.out (x12_3 : Int) (rd l0_0 x12_3)
                      try go_wp2_with (first | ((with_reducible refine gate_store (t := 2) (p := 75) rfl ?_); refine store_event (t := 2) (p := 75) (v := ?vo_w44) (w1 := (wr.setCell ⟨go36, (x12_3 : Int).toNat, none⟩ (.int .i64 (rd l0_0 x12_3)))) ?hg ?ho ?hn ?hr ?_; (case ho => rfl); (case hg => rfl); (case hn => rfl); (case hr => first | (go_simp; done) | (go_simp; rfl)); intro w44 hw; have hg : wr.grownBy w44 (some go36) := (by rw [hw]; exact HP43.2); have hp_ : Kd.R (Kd.int .i64) 2 w44 w.heap.size (fun k_ => some k_ ≠ (u6 : Value).ownBlock ∧ some k_ ≠ (v110 : Value).ownBlock) (.slice (some ⟨go36, 0, none⟩) x7_3.length co29) y124 := (by rw [hw, Ny124.out]; exact HP43.1); clear HP43; have n0_ := Aside0.mk (Kd.R_after (v := (.slice (some ⟨go36, 0, none⟩) x7_3.length co29)) (v1 := (.slice (some ⟨go36, 0, none⟩) x7_3.length co29)) (ok := (fun k_ => some k_ ≠ (v110 : Value).ownBlock)) (by exact Kd.R_mono HO_6.out (fun _ hk => ⟨hk.2, hk.1⟩)) hg (.inl rfl)); have n1_ := Aside0.mk (hp_); have n2_ := Aside0.mk (Kd.R_after (v := (.slice (some ⟨go36, 0, none⟩) x7_3.length co29)) (v1 := (.slice (some ⟨go36, 0, none⟩) x7_3.length co29)) (ok := (fun k_ => some k_ ≠ (u6 : Value).ownBlock)) (by exact HO_8.out) hg (.inl rfl)); have n3_ := Aside0.mk (blk_grown (g := gb101) (o := .cells #[.slice (some ad123) l0_0.length c0_0, .slice (some ad122) l0_1.length c0_1, .slice A0_2 l0_2.length c0_2] 32 (0, 0)) (by (with_reducible repeat (first | refine blk_drewN ?_ _ | refine blk_drew ?_ | refine blk_alloc ?_ _)); exact BK101.out) hg (Kd.R_ne HO_7.out BK101.out (by decide))); have n4_ := Aside0.mk ((by rw [hw]; exact below_set (HB.out) GB36.out : Below w.heap.size w w44)); clear HO_6; clear HO_7; clear HO_8; clear BK101; clear HB; have HO_6 := n0_; have HO_7 := n1_; have HO_8 := n2_; have BK101 := n3_; have HB := n4_; clear n0_ n1_ n2_ n3_ n4_; clear hg hw hp_; have hcz45_0 : w44.cell? ⟨gb101, 0, none⟩ = some (.slice (some ad123) l0_0.length c0_0) := (blk_cell BK101.out 0).trans rfl; have hcz45_1 : w44.cell? ⟨gb101, 1, none⟩ = some (.slice (some ad122) l0_1.length c0_1) := (blk_cell BK101.out 1).trans rfl; have hcz45_2 : w44.cell? ⟨gb101, 2, none⟩ = some (.slice A0_2 l0_2.length c0_2) := (blk_cell BK101.out 2).trans rfl; have hfz45_0 := blk_frozen BK101.out 0; have hfz45_1 := blk_frozen BK101.out 1; have hfz45_2 := blk_frozen BK101.out 2; have p125 : 0 ≤ (x12_3 : Int) := of_decide_eq_true (by assumption); have q125 : x12_3 < (l0_2.length : Int) := of_decide_eq_true (by assumption); obtain ⟨ad125, e125, hx125_0⟩ := Kd.at_int HR0_2.out x12_3 p125 q125; cases e125; replace hx125_0 := (HB.out.cell (World.block_lt_of_cell? w _ hx125_0)).trans hx125_0; replace p125 := eq_true p125; replace q125 := eq_true q125; have p39 : 0 ≤ (x12_3 : Int) := of_decide_eq_true (by assumption); have q39 : (x12_3 : Int) < ((x8_3.length : Int) : Int) := of_decide_eq_true (by assumption); obtain ⟨go39, co39, eo39, gb39, gl39, cl39, HG39⟩ := Kd.R_form HO_8.out (by omega); (first | cases eo39 | (injection eo39 with ea_ en_ ec_; (first | subst ea_ | (injection ea_ with ea_; subst ea_)); subst ec_; clear en_)); have GB39 := Aside0.mk gb39; have GG39 := Aside0.mk HG39; clear gb39 gl39 HG39; obtain ⟨hx39_0, hf39_0⟩ := Kd.R_celln 0 HO_8.out (x12_3 : Int) p39 q39; replace p39 := eq_true p39; replace q39 := eq_true q39; obtain ⟨hy46_, hz46_⟩ := Kd.R_celln 0 HO_8.out (x12_3 : Int) (of_decide_eq_true (by assumption)) (of_decide_eq_true (by assumption)); have HP46 := Kd.R_putg HO_8.out (x12_3 : Int) (wrap64 (x9_1 + (rd l0_2 x12_3)))) | ((with_reducible refine gate_store (t := 2) (p := 85) rfl ?_); refine store_event (t := 2) (p := 85) (v := ?vo_w47) (w1 := (w44.setCell ⟨go39, (x12_3 : Int).toNat, none⟩ (.int .i64 (wrap64 (x9_1 + (rd l0_2 x12_3)))))) ?hg ?ho ?hn ?hr ?_; (case ho => rfl); (case hg => rfl); (case hn => rfl); (case hr => first | (go_simp; done) | (go_simp; rfl)); intro w47 hw; have hg : w44.grownBy w47 (some go39) := (by rw [hw]; exact HP46.2); have hp_ : Kd.R (Kd.int .i64) 2 w47 w.heap.size (fun k_ => some k_ ≠ (u6 : Value).ownBlock ∧ some k_ ≠ (.slice (some ⟨go36, 0, none⟩) x7_3.length co29 : Value).ownBlock) (.slice (some ⟨go39, 0, none⟩) x8_3.length co39) y126 := (by rw [hw, Ny126.out]; exact HP46.1); clear HP46; have n0_ := Aside0.mk (Kd.R_after (v := (.slice (some ⟨go39, 0, none⟩) x8_3.length co39)) (v1 := (.slice (some ⟨go39, 0, none⟩) x8_3.length co39)) (ok := (fun k_ => some k_ ≠ (.slice (some ⟨go36, 0, none⟩) x7_3.length co29 : Value).ownBlock)) (by exact Kd.R_mono HO_6.out (fun _ hk => ⟨hk.2, hk.1⟩)) hg (.inl rfl)); have n1_ := Aside0.mk (Kd.R_after (v := (.slice (some ⟨go39, 0, none⟩) x8_3.length co39)) (v1 := (.slice (some ⟨go39, 0, none⟩) x8_3.length co39)) (ok := (fun k_ => some k_ ≠ (u6 : Value).ownBlock)) (by exact HO_7.out) hg (.inl rfl)); have n2_ := Aside0.mk (hp_); have n3_ := Aside0.mk (blk_grown (g := gb101) (o := .cells #[.slice (some ad123) l0_0.length c0_0, .slice (some ad122) l0_1.length c0_1, .slice (some ad125) l0_2.length c0_2] 32 (0, 0)) (by (with_reducible repeat (first | refine blk_drewN ?_ _ | refine blk_drew ?_ | refine blk_alloc ?_ _)); exact BK101.out) hg (Kd.R_ne HO_8.out BK101.out (by decide))); have n4_ := Aside0.mk ((by rw [hw]; exact below_set (HB.out) GB39.out : Below w.heap.size w w47)); clear HO_6; clear HO_7; clear HO_8; clear BK101; clear HB; have HO_6 := n0_; have HO_7 := n1_; have HO_8 := n2_; have BK101 := n3_; have HB := n4_; clear n0_ n1_ n2_ n3_ n4_; clear hg hw hp_))
                      have n0_ := Aside0.mk (Kd.R_drew HO_6.out)
                      have n1_ := Aside0.mk (Kd.R_drew HO_7.out)
                      have n2_ := Aside0.mk (Kd.R_drew HO_8.out)
                      have n3_ := Aside0.mk (blk_drew BK101.out)
                      have n4_ := Aside0.mk (below_drew1 HB.out)
                      clear HO_6
                      clear HO_7
                      clear HO_8
                      clear BK101
                      clear HB
                      have HO_6 := n0_
                      have HO_7 := n1_
                      have HO_8 := n2_
                      have BK101 := n3_
                      have HB := n4_
                      clear n0_ n1_ n2_ n3_ n4_
                      have p127 : 0 ≤ (x12_3 : Int) := of_decide_eq_true (by assumption)
                      have q127 : x12_3 < (y124.length : Int) := (by have h_ : (x12_3 : Int) < ((x7_3.length : Int) : Int) := of_decide_eq_true (by assumption); first | (have e_ := (Kd.R_reads' HO_7.out).1; omega) | simpa only [Ny124.out, List.length_set] using h_)
                      have ql127 : ((x12_3 : Int) < ((x7_3.length : Int) : Int)) = True := eq_true (of_decide_eq_true (by assumption))
                      obtain ⟨ad127, e127, hx127_0⟩ := Kd.at_int (Kd.R_reads' HO_7.out).2.2 x12_3 p127 q127
                      obtain rfl : (⟨go36, 0, none⟩ : Addr) = ad127 := (by injection e127)
                      (first | simp only [add_plain] at hx127_0 | simp only [add_at] at hx127_0 | simp only [Addr.add, Nat.zero_add] at hx127_0 | skip)
                      replace p127 := eq_true p127
                      replace q127 := eq_true q127
                      refine start_ (n := 20) (S := fun w' => w'.cell? ⟨go36, (x12_3).toNat, none⟩ = some (.int .i64 (rd y124 x12_3))) (ds := []) #[false,false,false,false,false,false,false,false,false,false,false,false,false,false,false,false,false,false,false,false] (by kernel_rfl) rfl rfl (hx127_0) (fun hHeld => ?_); refine with_tabW spec_l04Slots.tab19 spec_l04Slots.bits19 (fun HT_ HW_ => ?_)
                      generalize w47.drew = w48 at HO_6 HO_7 HO_8 BK101 HB hx127_0 hHeld ⊢
                      refine pure_ (i := 0) (N := some 86) (v := ?_) (a' := ?_) #[true,false,false,false,false,false,false,false,false,false,false,false,false,false,false,false,false,false,false,false] rfl rfl (any_of HT_.out (by kernel_rfl)) (fun _ _ _ h => h) (Or.inl ⟨by rfl, ?_⟩) ?_ ?_
                      rotate_left; (· intro w'; go_simp; with_reducible rfl); rotate_left; (· simp only [Act.put, q6f5_1, q6f5_2, q6f5_3, i64_w, i32_w]; rfl)
                      refine pure_ (i := 1) (N := some 87) (v := ?_) (a' := ?_) #[true,true,false,false,false,false,false,false,false,false,false,false,false,false,false,false,false,false,false,false] rfl rfl (any_of HT_.out (by kernel_rfl)) (fun _ _ _ h => h) (Or.inl ⟨by rfl, ?_⟩) ?_ ?_
                      rotate_left; (· intro w'; go_simp; with_reducible rfl); rotate_left; (· simp only [Act.put, q6f5_1, q6f5_2, q6f5_3, i64_w, i32_w]; rfl)
                      refine pure_ (i := 2) (N := some 88) (v := ?_) (a' := ?_) #[true,true,true,false,false,false,false,false,false,false,false,false,false,false,false,false,false,false,false,false] rfl rfl (any_of HT_.out (by kernel_rfl)) (fun _ _ _ h => h) (Or.inl ⟨by rfl, ?_⟩) ?_ ?_
                      rotate_left; (· intro w'; go_simp; with_reducible rfl); rotate_left; (· simp only [Act.put, q6f5_1, q6f5_2, q6f5_3, i64_w, i32_w]; rfl)
                      refine take_ (i := 3) (N := some 89) (v := ?_) (a' := ?_) #[true,true,true,true,false,false,false,false,false,false,false,false,false,false,false,false,false,false,false,false] rfl rfl (take_ofW HT_.out HW_.out (by kernel_rfl)) (fun _ _ _ h => h) (Or.inl ⟨by rfl, ?_⟩) hHeld ?_ ?_
                      rotate_left
                      ·
                       intro w' s0
                       go_simp
                       with_reducible rfl
                      rotate_left
                      ·
                       simp only [Act.put, q6f5_1, q6f5_2, q6f5_3, i64_w, i32_w]
                       rfl
                      refine pure_ (i := 4) (N := some 90) (v := ?_) (a' := ?_) #[true,true,true,true,true,false,false,false,false,false,false,false,false,false,false,false,false,false,false,false] rfl rfl (any_of HT_.out (by kernel_rfl)) (fun _ _ _ h => h) (Or.inl ⟨by rfl, ?_⟩) ?_ ?_
                      rotate_left; (· intro w'; go_simp; with_reducible rfl); rotate_left; (· simp only [Act.put, q6f5_1, q6f5_2, q6f5_3, i64_w, i32_w]; rfl)
                      refine pure_ (i := 5) (N := some 91) (v := ?_) (a' := ?_) #[true,true,true,true,true,true,false,false,false,false,false,false,false,false,false,false,false,false,false,false] rfl rfl (any_of HT_.out (by kernel_rfl)) (fun _ _ _ h => h) (Or.inl ⟨by rfl, ?_⟩) ?_ ?_
                      rotate_left; (· intro w'; go_simp; with_reducible rfl); rotate_left; (· simp only [Act.put, q6f5_1, q6f5_2, q6f5_3, i64_w, i32_w]; rfl)
                      refine pure_ (i := 6) (N := some 92) (v := ?_) (a' := ?_) #[true,true,true,true,true,true,true,false,false,false,false,false,false,false,false,false,false,false,false,false] rfl rfl (any_of HT_.out (by kernel_rfl)) (fun _ _ _ h => h) (Or.inl ⟨by rfl, ?_⟩) ?_ ?_
                      rotate_left; (· intro w'; go_simp; with_reducible rfl); rotate_left; (· simp only [Act.put, q6f5_1, q6f5_2, q6f5_3, i64_w, i32_w]; rfl)
                      refine pure_ (i := 7) (N := some 93) (v := ?_) (a' := ?_) #[true,true,true,true,true,true,true,true,false,false,false,false,false,false,false,false,false,false,false,false] rfl rfl (any_of HT_.out (by kernel_rfl)) (fun _ _ _ h => h) (Or.inl ⟨by rfl, ?_⟩) ?_ ?_
                      rotate_left; (· intro w'; go_simp; with_reducible rfl); rotate_left; (· simp only [Act.put, q6f5_1, q6f5_2, q6f5_3, i64_w, i32_w]; rfl)
                      refine pure_ (i := 8) (N := some 94) (v := ?_) (a' := ?_) #[true,true,true,true,true,true,true,true,true,false,false,false,false,false,false,false,false,false,false,false] rfl rfl (any_of HT_.out (by kernel_rfl)) (fun _ _ _ h => h) (Or.inl ⟨by rfl, ?_⟩) ?_ ?_
                      rotate_left; (· intro w'; go_simp; with_reducible rfl); rotate_left; (· simp only [Act.put, q6f5_1, q6f5_2, q6f5_3, i64_w, i32_w]; rfl)
                      refine pure_ (i := 9) (N := some 95) (v := undef) (a' := ?_) #[true,true,true,true,true,true,true,true,true,true,false,false,false,false,false,false,false,false,false,false] rfl rfl (any_of HT_.out (by kernel_rfl)) (fun _ _ _ h => h) (Or.inr ⟨by rfl, rfl⟩) ?_ ?_
                      rotate_left
                      ·
                       simp only [Act.put, q6f5_1, q6f5_2, q6f5_3, i64_w, i32_w]
                       rfl
                      refine pure_ (i := 10) (N := some 96) (v := undef) (a' := ?_) #[true,true,true,true,true,true,true,true,true,true,true,false,false,false,false,false,false,false,false,false] rfl rfl (any_of HT_.out (by kernel_rfl)) (fun _ _ _ h => h) (Or.inr ⟨by rfl, rfl⟩) ?_ ?_
                      rotate_left
                      ·
                       simp only [Act.put, q6f5_1, q6f5_2, q6f5_3, i64_w, i32_w]
                       rfl
                      refine pure_ (i := 11) (N := some 97) (v := undef) (a' := ?_) #[true,true,true,true,true,true,true,true,true,true,true,true,false,false,false,false,false,false,false,false] rfl rfl (any_of HT_.out (by kernel_rfl)) (fun _ _ _ h => h) (Or.inr ⟨by rfl, rfl⟩) ?_ ?_
                      rotate_left
                      ·
                       simp only [Act.put, q6f5_1, q6f5_2, q6f5_3, i64_w, i32_w]
                       rfl
                      refine pure_ (i := 12) (N := some 98) (v := undef) (a' := ?_) #[true,true,true,true,true,true,true,true,true,true,true,true,true,false,false,false,false,false,false,false] rfl rfl (any_of HT_.out (by kernel_rfl)) (fun _ _ _ h => h) (Or.inr ⟨by rfl, rfl⟩) ?_ ?_
                      rotate_left
                      ·
                       simp only [Act.put, q6f5_1, q6f5_2, q6f5_3, i64_w, i32_w]
                       rfl
                      refine pure_ (i := 13) (N := some 99) (v := undef) (a' := ?_) #[true,true,true,true,true,true,true,true,true,true,true,true,true,true,false,false,false,false,false,false] rfl rfl (any_of HT_.out (by kernel_rfl)) (fun _ _ _ h => h) (Or.inr ⟨by rfl, rfl⟩) ?_ ?_
                      rotate_left
                      ·
                       simp only [Act.put, q6f5_1, q6f5_2, q6f5_3, i64_w, i32_w]
                       rfl
                      refine pure_ (i := 14) (N := some 100) (v := undef) (a' := ?_) #[true,true,true,true,true,true,true,true,true,true,true,true,true,true,true,false,false,false,false,false] rfl rfl (any_of HT_.out (by kernel_rfl)) (fun _ _ _ h => h) (Or.inr ⟨by rfl, rfl⟩) ?_ ?_
                      rotate_left
                      ·
                       simp only [Act.put, q6f5_1, q6f5_2, q6f5_3, i64_w, i32_w]
                       rfl
                      refine pure_ (i := 15) (N := some 101) (v := undef) (a' := ?_) #[true,true,true,true,true,true,true,true,true,true,true,true,true,true,true,true,false,false,false,false] rfl rfl (any_of HT_.out (by kernel_rfl)) (fun _ _ _ h => h) (Or.inr ⟨by rfl, rfl⟩) ?_ ?_
                      rotate_left
                      ·
                       simp only [Act.put, q6f5_1, q6f5_2, q6f5_3, i64_w, i32_w]
                       rfl
                      refine pure_ (i := 16) (N := some 102) (v := undef) (a' := ?_) #[true,true,true,true,true,true,true,true,true,true,true,true,true,true,true,true,true,false,false,false] rfl rfl (any_of HT_.out (by kernel_rfl)) (fun _ _ _ h => h) (Or.inr ⟨by rfl, rfl⟩) ?_ ?_
                      rotate_left
                      ·
                       simp only [Act.put, q6f5_1, q6f5_2, q6f5_3, i64_w, i32_w]
                       rfl
                      refine pure_ (i := 17) (N := some 103) (v := undef) (a' := ?_) #[true,true,true,true,true,true,true,true,true,true,true,true,true,true,true,true,true,true,false,false] rfl rfl (any_of HT_.out (by kernel_rfl)) (fun _ _ _ h => h) (Or.inr ⟨by rfl, rfl⟩) ?_ ?_
                      rotate_left
                      ·
                       simp only [Act.put, q6f5_1, q6f5_2, q6f5_3, i64_w, i32_w]
                       rfl
                      refine pure_ (i := 18) (N := some 104) (v := ?_) (a' := ?_) #[true,true,true,true,true,true,true,true,true,true,true,true,true,true,true,true,true,true,true,false] rfl rfl (any_of HT_.out (by kernel_rfl)) (fun _ _ _ h => h) (Or.inl ⟨by rfl, ?_⟩) ?_ ?_
                      rotate_left; (· intro w'; go_simp; with_reducible rfl); rotate_left; (· simp only [Act.put, q6f5_1, q6f5_2, q6f5_3, i64_w, i32_w]; rfl)
                      refine pure_ (i := 19) (N := some 105) (v := ?_) (a' := ?_) #[true,true,true,true,true,true,true,true,true,true,true,true,true,true,true,true,true,true,true,true] rfl rfl (any_of HT_.out (by kernel_rfl)) (fun _ _ _ h => h) (Or.inl ⟨by rfl, ?_⟩) ?_ ?_
                      rotate_left; (· intro w'; go_simp; with_reducible rfl); rotate_left; (· simp only [Act.put, q6f5_1, q6f5_2, q6f5_3, i64_w, i32_w]; rfl)
                      refine done_ (done_of HT_.out (by kernel_rfl)) ?_
                      try go_wp2
                      (try simp only [← hl7_3])
                      go_roundg k3
                      case measure => have := HK1.out; have := HK2.out; have := HK3.out; omega
                      case rel => exact ⟨(y124), (y126), (x12_3), (wrap64 (x12_3 + 1)), (by first | rfl | simp), (by first | rfl | simp), H', ⟨by have := HK1.out; have := HK2.out; have := HK3.out; omega⟩, ⟨by (try simp only [hl7_3]); exact HO_6.out⟩, ⟨by (try simp only [hl7_3]); exact HO_7.out⟩, ⟨by (try simp only [hl7_3]); exact HO_8.out⟩, ⟨by (try simp only [hl7_3]); (with_reducible repeat (first | refine blk_drewN ?_ _ | refine blk_drew ?_ | refine blk_alloc ?_ _)); exact BK101.out⟩, ⟨by repeat (first | (with_reducible first | exact HB.out | apply below_alloc | apply pw_below_drewN | apply below_drew1 | refine below_set ?_ GE101.out) | exact HB.out)⟩⟩
                     ·
                      rw [if_neg c41] at H
                      have c41b0 : decide (x11_3 < 0) = false := decide_eq_false c41
                      clear c41
                      by_cases c49 : 0 ≤ x11_3
                      ·
                       rw [if_pos c49] at H
                       have c49b0 : decide (0 ≤ x11_3) = true := decide_eq_true c49
                       clear c49
                       by_cases c50 : x11_3 < (x8_3.length : Int)
                       ·
                        rw [if_pos c50] at H
                        have c50b0 : decide (x11_3 < (x8_3.length : Int)) = true := decide_eq_true c50
                        clear c50
                        by_cases c51 : (rd y126 x12_3) < (rd y126 x11_3)
                        ·
                         rw [if_pos c51] at H
                         have c51b0 : decide ((rd y126 x12_3) < (rd y126 x11_3)) = true := decide_eq_true c51
                         clear c51
                         have H' := Aside0.mk H
                         clear H
                         have hcz52_0 : wr.cell? ⟨gb101, 0, none⟩ = some (.slice A0_0 l0_0.length c0_0) := (blk_cell BK101.out 0).trans rfl
                         have hcz52_1 : wr.cell? ⟨gb101, 1, none⟩ = some (.slice A0_1 l0_1.length c0_1) := (blk_cell BK101.out 1).trans rfl
                         have hcz52_2 : wr.cell? ⟨gb101, 2, none⟩ = some (.slice A0_2 l0_2.length c0_2) := (blk_cell BK101.out 2).trans rfl
                         have hfz52_0 := blk_frozen BK101.out 0
                         have hfz52_1 := blk_frozen BK101.out 1
                         have hfz52_2 := blk_frozen BK101.out 2
                         have p122 : 0 ≤ (x12_3 : Int) := of_decide_eq_true (by assumption)
                         have q122 : x12_3 < (l0_1.length : Int) := of_decide_eq_true (by assumption)
                         obtain ⟨ad122, e122, hx122_0⟩ := Kd.at_int HR0_1.out x12_3 p122 q122
                         cases e122
                         replace hx122_0 := (HB.out.cell (World.block_lt_of_cell? w _ hx122_0)).trans hx122_0
                         replace p122 := eq_true p122
                         replace q122 := eq_true q122
                         have p123 : 0 ≤ (x12_3 : Int) := of_decide_eq_true (by assumption)
                         have q123 : x12_3 < (l0_0.length : Int) := of_decide_eq_true (by assumption)
                         obtain ⟨ad123, e123, hx123_0⟩ := Kd.at_int HR0_0.out x12_3 p123 q123
                         cases e123
                         replace hx123_0 := (HB.out.cell (World.block_lt_of_cell? w _ hx123_0)).trans hx123_0
                         replace p123 := eq_true p123
                         replace q123 := eq_true q123
                         have p36 : 0 ≤ (x12_3 : Int) := of_decide_eq_true (by assumption)
                         have q36 : (x12_3 : Int) < ((x7_3.length : Int) : Int) := of_decide_eq_true (by assumption)
                         obtain ⟨go36, co36, eo36, gb36, gl36, cl36, HG36⟩ := Kd.R_form HO_7.out (by omega)
                         (first | cases eo36 | (injection eo36 with ea_ en_ ec_; (first | subst ea_ | (injection ea_ with ea_; subst ea_)); subst ec_; clear en_))
                         have GB36 := Aside0.mk gb36
                         have GG36 := Aside0.mk HG36
                         clear gb36 gl36 HG36
                         obtain ⟨hx36_0, hf36_0⟩ := Kd.R_celln 0 HO_7.out (x12_3 : Int) p36 q36
                         replace p36 := eq_true p36
                         replace q36 := eq_true q36
                         have HP53 := Kd.R_putg HO_7.out (x12_3 : Int) (rd l0_0 x12_3)
                         try go_wp2_with (first | ((with_reducible refine gate_store (t := 2) (p := 75) rfl ?_); refine store_event (t := 2) (p := 75) (v := ?vo_w54) (w1 := (wr.setCell ⟨go36, (x12_3 : Int).toNat, none⟩ (.int .i64 (rd l0_0 x12_3)))) ?hg ?ho ?hn ?hr ?_; (case ho => rfl); (case hg => rfl); (case hn => rfl); (case hr => first | (go_simp; done) | (go_simp; rfl)); intro w54 hw; have hg : wr.grownBy w54 (some go36) := (by rw [hw]; exact HP53.2); have hp_ : Kd.R (Kd.int .i64) 2 w54 w.heap.size (fun k_ => some k_ ≠ (u6 : Value).ownBlock ∧ some k_ ≠ (v110 : Value).ownBlock) (.slice (some ⟨go36, 0, none⟩) x7_3.length co29) y124 := (by rw [hw, Ny124.out]; exact HP53.1); clear HP53; have n0_ := Aside0.mk (Kd.R_after (v := (.slice (some ⟨go36, 0, none⟩) x7_3.length co29)) (v1 := (.slice (some ⟨go36, 0, none⟩) x7_3.length co29)) (ok := (fun k_ => some k_ ≠ (v110 : Value).ownBlock)) (by exact Kd.R_mono HO_6.out (fun _ hk => ⟨hk.2, hk.1⟩)) hg (.inl rfl)); have n1_ := Aside0.mk (hp_); have n2_ := Aside0.mk (Kd.R_after (v := (.slice (some ⟨go36, 0, none⟩) x7_3.length co29)) (v1 := (.slice (some ⟨go36, 0, none⟩) x7_3.length co29)) (ok := (fun k_ => some k_ ≠ (u6 : Value).ownBlock)) (by exact HO_8.out) hg (.inl rfl)); have n3_ := Aside0.mk (blk_grown (g := gb101) (o := .cells #[.slice (some ad123) l0_0.length c0_0, .slice (some ad122) l0_1.length c0_1, .slice A0_2 l0_2.length c0_2] 32 (0, 0)) (by (with_reducible repeat (first | refine blk_drewN ?_ _ | refine blk_drew ?_ | refine blk_alloc ?_ _)); exact BK101.out) hg (Kd.R_ne HO_7.out BK101.out (by decide))); have n4_ := Aside0.mk ((by rw [hw]; exact below_set (HB.out) GB36.out : Below w.heap.size w w54)); clear HO_6; clear HO_7; clear HO_8; clear BK101; clear HB; have HO_6 := n0_; have HO_7 := n1_; have HO_8 := n2_; have BK101 := n3_; have HB := n4_; clear n0_ n1_ n2_ n3_ n4_; clear hg hw hp_; have hcz55_0 : w54.cell? ⟨gb101, 0, none⟩ = some (.slice (some ad123) l0_0.length c0_0) := (blk_cell BK101.out 0).trans rfl; have hcz55_1 : w54.cell? ⟨gb101, 1, none⟩ = some (.slice (some ad122) l0_1.length c0_1) := (blk_cell BK101.out 1).trans rfl; have hcz55_2 : w54.cell? ⟨gb101, 2, none⟩ = some (.slice A0_2 l0_2.length c0_2) := (blk_cell BK101.out 2).trans rfl; have hfz55_0 := blk_frozen BK101.out 0; have hfz55_1 := blk_frozen BK101.out 1; have hfz55_2 := blk_frozen BK101.out 2; have p125 : 0 ≤ (x12_3 : Int) := of_decide_eq_true (by assumption); have q125 : x12_3 < (l0_2.length : Int) := of_decide_eq_true (by assumption); obtain ⟨ad125, e125, hx125_0⟩ := Kd.at_int HR0_2.out x12_3 p125 q125; cases e125; replace hx125_0 := (HB.out.cell (World.block_lt_of_cell? w _ hx125_0)).trans hx125_0; replace p125 := eq_true p125; replace q125 := eq_true q125; have p39 : 0 ≤ (x12_3 : Int) := of_decide_eq_true (by assumption); have q39 : (x12_3 : Int) < ((x8_3.length : Int) : Int) := of_decide_eq_true (by assumption); obtain ⟨go39, co39, eo39, gb39, gl39, cl39, HG39⟩ := Kd.R_form HO_8.out (by omega); (first | cases eo39 | (injection eo39 with ea_ en_ ec_; (first | subst ea_ | (injection ea_ with ea_; subst ea_)); subst ec_; clear en_)); have GB39 := Aside0.mk gb39; have GG39 := Aside0.mk HG39; clear gb39 gl39 HG39; obtain ⟨hx39_0, hf39_0⟩ := Kd.R_celln 0 HO_8.out (x12_3 : Int) p39 q39; replace p39 := eq_true p39; replace q39 := eq_true q39; obtain ⟨hy56_, hz56_⟩ := Kd.R_celln 0 HO_8.out (x12_3 : Int) (of_decide_eq_true (by assumption)) (of_decide_eq_true (by assumption)); have HP56 := Kd.R_putg HO_8.out (x12_3 : Int) (wrap64 (x9_1 + (rd l0_2 x12_3)))) | ((with_reducible refine gate_store (t := 2) (p := 85) rfl ?_); refine store_event (t := 2) (p := 85) (v := ?vo_w57) (w1 := (w54.setCell ⟨go39, (x12_3 : Int).toNat, none⟩ (.int .i64 (wrap64 (x9_1 + (rd l0_2 x12_3)))))) ?hg ?ho ?hn ?hr ?_; (case ho => rfl); (case hg => rfl); (case hn => rfl); (case hr => first | (go_simp; done) | (go_simp; rfl)); intro w57 hw; have hg : w54.grownBy w57 (some go39) := (by rw [hw]; exact HP56.2); have hp_ : Kd.R (Kd.int .i64) 2 w57 w.heap.size (fun k_ => some k_ ≠ (u6 : Value).ownBlock ∧ some k_ ≠ (.slice (some ⟨go36, 0, none⟩) x7_3.length co29 : Value).ownBlock) (.slice (some ⟨go39, 0, none⟩) x8_3.length co39) y126 := (by rw [hw, Ny126.out]; exact HP56.1); clear HP56; have n0_ := Aside0.mk (Kd.R_after (v := (.slice (some ⟨go39, 0, none⟩) x8_3.length co39)) (v1 := (.slice (some ⟨go39, 0, none⟩) x8_3.length co39)) (ok := (fun k_ => some k_ ≠ (.slice (some ⟨go36, 0, none⟩) x7_3.length co29 : Value).ownBlock)) (by exact Kd.R_mono HO_6.out (fun _ hk => ⟨hk.2, hk.1⟩)) hg (.inl rfl)); have n1_ := Aside0.mk (Kd.R_after (v := (.slice (some ⟨go39, 0, none⟩) x8_3.length co39)) (v1 := (.slice (some ⟨go39, 0, none⟩) x8_3.length co39)) (ok := (fun k_ => some k_ ≠ (u6 : Value).ownBlock)) (by exact HO_7.out) hg (.inl rfl)); have n2_ := Aside0.mk (hp_); have n3_ := Aside0.mk (blk_grown (g := gb101) (o := .cells #[.slice (some ad123) l0_0.length c0_0, .slice (some ad122) l0_1.length c0_1, .slice (some ad125) l0_2.length c0_2] 32 (0, 0)) (by (with_reducible repeat (first | refine blk_drewN ?_ _ | refine blk_drew ?_ | refine blk_alloc ?_ _)); exact BK101.out) hg (Kd.R_ne HO_8.out BK101.out (by decide))); have n4_ := Aside0.mk ((by rw [hw]; exact below_set (HB.out) GB39.out : Below w.heap.size w w57)); clear HO_6; clear HO_7; clear HO_8; clear BK101; clear HB; have HO_6 := n0_; have HO_7 := n1_; have HO_8 := n2_; have BK101 := n3_; have HB := n4_; clear n0_ n1_ n2_ n3_ n4_; clear hg hw hp_))
                         have n0_ := Aside0.mk (Kd.R_drew HO_6.out)
                         have n1_ := Aside0.mk (Kd.R_drew HO_7.out)
                         have n2_ := Aside0.mk (Kd.R_drew HO_8.out)
                         have n3_ := Aside0.mk (blk_drew BK101.out)
                         have n4_ := Aside0.mk (below_drew1 HB.out)
                         clear HO_6
                         clear HO_7
                         clear HO_8
                         clear BK101
                         clear HB
                         have HO_6 := n0_
                         have HO_7 := n1_
                         have HO_8 := n2_
                         have BK101 := n3_
                         have HB := n4_
                         clear n0_ n1_ n2_ n3_ n4_
                         have p127 : 0 ≤ (x12_3 : Int) := of_decide_eq_true (by assumption)
                         have q127 : x12_3 < (y124.length : Int) := (by have h_ : (x12_3 : Int) < ((x7_3.length : Int) : Int) := of_decide_eq_true (by assumption); first | (have e_ := (Kd.R_reads' HO_7.out).1; omega) | simpa only [Ny124.out, List.length_set] using h_)
                         have ql127 : ((x12_3 : Int) < ((x7_3.length : Int) : Int)) = True := eq_true (of_decide_eq_true (by assumption))
                         obtain ⟨ad127, e127, hx127_0⟩ := Kd.at_int (Kd.R_reads' HO_7.out).2.2 x12_3 p127 q127
                         obtain rfl : (⟨go36, 0, none⟩ : Addr) = ad127 := (by injection e127)
                         (first | simp only [add_plain] at hx127_0 | simp only [add_at] at hx127_0 | simp only [Addr.add, Nat.zero_add] at hx127_0 | skip)
                         replace p127 := eq_true p127
                         replace q127 := eq_true q127
                         have p128 : 0 ≤ (x12_3 : Int) := of_decide_eq_true (by assumption)
                         have q128 : x12_3 < (y126.length : Int) := (by have h_ : (x12_3 : Int) < ((x8_3.length : Int) : Int) := of_decide_eq_true (by assumption); first | (have e_ := (Kd.R_reads' HO_8.out).1; omega) | simpa only [Ny126.out, List.length_set] using h_)
                         have ql128 : ((x12_3 : Int) < ((x8_3.length : Int) : Int)) = True := eq_true (of_decide_eq_true (by assumption))
                         obtain ⟨ad128, e128, hx128_0⟩ := Kd.at_int (Kd.R_reads' HO_8.out).2.2 x12_3 p128 q128
                         obtain rfl : (⟨go39, 0, none⟩ : Addr) = ad128 := (by injection e128)
                         (first | simp only [add_plain] at hx128_0 | simp only [add_at] at hx128_0 | simp only [Addr.add, Nat.zero_add] at hx128_0 | skip)
                         replace p128 := eq_true p128
                         replace q128 := eq_true q128
                         have p129 : 0 ≤ (x11_3 : Int) := of_decide_eq_true (by assumption)
                         have q129 : x11_3 < (y126.length : Int) := (by have h_ : (x11_3 : Int) < ((x8_3.length : Int) : Int) := of_decide_eq_true (by assumption); first | (have e_ := (Kd.R_reads' HO_8.out).1; omega) | simpa only [Ny126.out, List.length_set] using h_)
                         have ql129 : ((x11_3 : Int) < ((x8_3.length : Int) : Int)) = True := eq_true (of_decide_eq_true (by assumption))
                         obtain ⟨ad129, e129, hx129_0⟩ := Kd.at_int (Kd.R_reads' HO_8.out).2.2 x11_3 p129 q129
                         obtain rfl : (⟨go39, 0, none⟩ : Addr) = ad129 := (by injection e129)
                         (first | simp only [add_plain] at hx129_0 | simp only [add_at] at hx129_0 | simp only [Addr.add, Nat.zero_add] at hx129_0 | skip)
                         replace p129 := eq_true p129
                         replace q129 := eq_true q129
                         refine start_ (n := 20) (S := fun w' => w'.cell? ⟨go36, (x12_3).toNat, none⟩ = some (.int .i64 (rd y124 x12_3)) ∧ w'.cell? ⟨go39, (x12_3).toNat, none⟩ = some (.int .i64 (rd y126 x12_3)) ∧ w'.cell? ⟨go39, (x11_3).toNat, none⟩ = some (.int .i64 (rd y126 x11_3))) (ds := []) #[false,false,false,false,false,false,false,false,false,false,false,false,false,false,false,false,false,false,false,false] (by kernel_rfl) rfl rfl ⟨hx127_0, hx128_0, hx129_0⟩ (fun hHeld => ?_); refine with_tabW spec_l04Slots.tab19 spec_l04Slots.bits19 (fun HT_ HW_ => ?_)
                         generalize w57.drew = w58 at HO_6 HO_7 HO_8 BK101 HB hx127_0 hx128_0 hx129_0 hHeld ⊢
                         refine pure_ (i := 0) (N := some 86) (v := ?_) (a' := ?_) #[true,false,false,false,false,false,false,false,false,false,false,false,false,false,false,false,false,false,false,false] rfl rfl (any_of HT_.out (by kernel_rfl)) (fun _ _ _ h => h) (Or.inl ⟨by rfl, ?_⟩) ?_ ?_
                         rotate_left; (· intro w'; go_simp; with_reducible rfl); rotate_left; (· simp only [Act.put, q6f5_1, q6f5_2, q6f5_3, i64_w, i32_w]; rfl)
                         refine pure_ (i := 1) (N := some 87) (v := ?_) (a' := ?_) #[true,true,false,false,false,false,false,false,false,false,false,false,false,false,false,false,false,false,false,false] rfl rfl (any_of HT_.out (by kernel_rfl)) (fun _ _ _ h => h) (Or.inl ⟨by rfl, ?_⟩) ?_ ?_
                         rotate_left; (· intro w'; go_simp; with_reducible rfl); rotate_left; (· simp only [Act.put, q6f5_1, q6f5_2, q6f5_3, i64_w, i32_w]; rfl)
                         refine pure_ (i := 2) (N := some 88) (v := ?_) (a' := ?_) #[true,true,true,false,false,false,false,false,false,false,false,false,false,false,false,false,false,false,false,false] rfl rfl (any_of HT_.out (by kernel_rfl)) (fun _ _ _ h => h) (Or.inl ⟨by rfl, ?_⟩) ?_ ?_
                         rotate_left; (· intro w'; go_simp; with_reducible rfl); rotate_left; (· simp only [Act.put, q6f5_1, q6f5_2, q6f5_3, i64_w, i32_w]; rfl)
                         refine take_ (i := 3) (N := some 89) (v := ?_) (a' := ?_) #[true,true,true,true,false,false,false,false,false,false,false,false,false,false,false,false,false,false,false,false] rfl rfl (take_ofW HT_.out HW_.out (by kernel_rfl)) (fun _ _ _ h => h) (Or.inl ⟨by rfl, ?_⟩) hHeld ?_ ?_
                         rotate_left; (· rintro w' ⟨s0, s1, s2⟩; go_simp; with_reducible rfl); rotate_left; (· simp only [Act.put, q6f5_1, q6f5_2, q6f5_3, i64_w, i32_w]; rfl)
                         refine pure_ (i := 4) (N := some 90) (v := ?_) (a' := ?_) #[true,true,true,true,true,false,false,false,false,false,false,false,false,false,false,false,false,false,false,false] rfl rfl (any_of HT_.out (by kernel_rfl)) (fun _ _ _ h => h) (Or.inl ⟨by rfl, ?_⟩) ?_ ?_
                         rotate_left; (· intro w'; go_simp; with_reducible rfl); rotate_left; (· simp only [Act.put, q6f5_1, q6f5_2, q6f5_3, i64_w, i32_w]; rfl)
                         refine pure_ (i := 5) (N := some 91) (v := ?_) (a' := ?_) #[true,true,true,true,true,true,false,false,false,false,false,false,false,false,false,false,false,false,false,false] rfl rfl (any_of HT_.out (by kernel_rfl)) (fun _ _ _ h => h) (Or.inl ⟨by rfl, ?_⟩) ?_ ?_
                         rotate_left; (· intro w'; go_simp; with_reducible rfl); rotate_left; (· simp only [Act.put, q6f5_1, q6f5_2, q6f5_3, i64_w, i32_w]; rfl)
                         refine pure_ (i := 6) (N := some 92) (v := ?_) (a' := ?_) #[true,true,true,true,true,true,true,false,false,false,false,false,false,false,false,false,false,false,false,false] rfl rfl (any_of HT_.out (by kernel_rfl)) (fun _ _ _ h => h) (Or.inl ⟨by rfl, ?_⟩) ?_ ?_
                         rotate_left; (· intro w'; go_simp; with_reducible rfl); rotate_left; (· simp only [Act.put, q6f5_1, q6f5_2, q6f5_3, i64_w, i32_w]; rfl)
                         refine pure_ (i := 7) (N := some 93) (v := ?_) (a' := ?_) #[true,true,true,true,true,true,true,true,false,false,false,false,false,false,false,false,false,false,false,false] rfl rfl (any_of HT_.out (by kernel_rfl)) (fun _ _ _ h => h) (Or.inl ⟨by rfl, ?_⟩) ?_ ?_
                         rotate_left; (· intro w'; go_simp; with_reducible rfl); rotate_left; (· simp only [Act.put, q6f5_1, q6f5_2, q6f5_3, i64_w, i32_w]; rfl)
                         refine pure_ (i := 8) (N := some 94) (v := ?_) (a' := ?_) #[true,true,true,true,true,true,true,true,true,false,false,false,false,false,false,false,false,false,false,false] rfl rfl (any_of HT_.out (by kernel_rfl)) (fun _ _ _ h => h) (Or.inl ⟨by rfl, ?_⟩) ?_ ?_
                         rotate_left; (· intro w'; go_simp; with_reducible rfl); rotate_left; (· simp only [Act.put, q6f5_1, q6f5_2, q6f5_3, i64_w, i32_w]; rfl)
                         refine pure_ (i := 9) (N := some 95) (v := ?_) (a' := ?_) #[true,true,true,true,true,true,true,true,true,true,false,false,false,false,false,false,false,false,false,false] rfl rfl (any_of HT_.out (by kernel_rfl)) (fun _ _ _ h => h) (Or.inl ⟨by rfl, ?_⟩) ?_ ?_
                         rotate_left; (· intro w'; go_simp; with_reducible rfl); rotate_left; (· simp only [Act.put, q6f5_1, q6f5_2, q6f5_3, i64_w, i32_w]; rfl)
                         refine pure_ (i := 10) (N := some 96) (v := ?_) (a' := ?_) #[true,true,true,true,true,true,true,true,true,true,true,false,false,false,false,false,false,false,false,false] rfl rfl (any_of HT_.out (by kernel_rfl)) (fun _ _ _ h => h) (Or.inl ⟨by rfl, ?_⟩) ?_ ?_
                         rotate_left; (· intro w'; go_simp; with_reducible rfl); rotate_left; (· simp only [Act.put, q6f5_1, q6f5_2, q6f5_3, i64_w, i32_w]; rfl)
                         refine pure_ (i := 11) (N := some 97) (v := ?_) (a' := ?_) #[true,true,true,true,true,true,true,true,true,true,true,true,false,false,false,false,false,false,false,false] rfl rfl (any_of HT_.out (by kernel_rfl)) (fun _ _ _ h => h) (Or.inl ⟨by rfl, ?_⟩) ?_ ?_
                         rotate_left; (· intro w'; go_simp; with_reducible rfl); rotate_left; (· simp only [Act.put, q6f5_1, q6f5_2, q6f5_3, i64_w, i32_w]; rfl)
                         refine pure_ (i := 13) (N := some 99) (v := ?_) (a' := ?_) #[true,true,true,true,true,true,true,true,true,true,true,true,false,true,false,false,false,false,false,false] rfl rfl (any_of HT_.out (by kernel_rfl)) (fun _ _ _ h => h) (Or.inl ⟨by rfl, ?_⟩) ?_ ?_
                         rotate_left; (· intro w'; go_simp; with_reducible rfl); rotate_left; (· simp only [Act.put, q6f5_1, q6f5_2, q6f5_3, i64_w, i32_w]; rfl)
                         refine pure_ (i := 14) (N := some 100) (v := ?_) (a' := ?_) #[true,true,true,true,true,true,true,true,true,true,true,true,false,true,true,false,false,false,false,false] rfl rfl (any_of HT_.out (by kernel_rfl)) (fun _ _ _ h => h) (Or.inl ⟨by rfl, ?_⟩) ?_ ?_
                         rotate_left; (· intro w'; go_simp; with_reducible rfl); rotate_left; (· simp only [Act.put, q6f5_1, q6f5_2, q6f5_3, i64_w, i32_w]; rfl)
                         refine pure_ (i := 15) (N := some 101) (v := ?_) (a' := ?_) #[true,true,true,true,true,true,true,true,true,true,true,true,false,true,true,true,false,false,false,false] rfl rfl (any_of HT_.out (by kernel_rfl)) (fun _ _ _ h => h) (Or.inl ⟨by rfl, ?_⟩) ?_ ?_
                         rotate_left; (· intro w'; go_simp; with_reducible rfl); rotate_left; (· simp only [Act.put, q6f5_1, q6f5_2, q6f5_3, i64_w, i32_w]; rfl)
                         refine take_ (i := 12) (N := some 98) (v := ?_) (a' := ?_) #[true,true,true,true,true,true,true,true,true,true,true,true,true,true,true,true,false,false,false,false] rfl rfl (take_ofW HT_.out HW_.out (by kernel_rfl)) (fun _ _ _ h => h) (Or.inl ⟨by rfl, ?_⟩) hHeld ?_ ?_
                         rotate_left; (· rintro w' ⟨s0, s1, s2⟩; go_simp; with_reducible rfl); rotate_left; (· simp only [Act.put, q6f5_1, q6f5_2, q6f5_3, i64_w, i32_w]; rfl)
                         refine take_ (i := 16) (N := some 102) (v := ?_) (a' := ?_) #[true,true,true,true,true,true,true,true,true,true,true,true,true,true,true,true,true,false,false,false] rfl rfl (take_ofW HT_.out HW_.out (by kernel_rfl)) (fun _ _ _ h => h) (Or.inl ⟨by rfl, ?_⟩) hHeld ?_ ?_
                         rotate_left; (· rintro w' ⟨s0, s1, s2⟩; go_simp; with_reducible rfl); rotate_left; (· simp only [Act.put, q6f5_1, q6f5_2, q6f5_3, i64_w, i32_w]; rfl)
                         refine pure_ (i := 17) (N := some 103) (v := ?_) (a' := ?_) #[true,true,true,true,true,true,true,true,true,true,true,true,true,true,true,true,true,true,false,false] rfl rfl (any_of HT_.out (by kernel_rfl)) (fun _ _ _ h => h) (Or.inl ⟨by rfl, ?_⟩) ?_ ?_
                         rotate_left; (· intro w'; go_simp; with_reducible rfl); rotate_left; (· simp only [Act.put, q6f5_1, q6f5_2, q6f5_3, i64_w, i32_w]; rfl)
                         refine pure_ (i := 18) (N := some 104) (v := ?_) (a' := ?_) #[true,true,true,true,true,true,true,true,true,true,true,true,true,true,true,true,true,true,true,false] rfl rfl (any_of HT_.out (by kernel_rfl)) (fun _ _ _ h => h) (Or.inl ⟨by rfl, ?_⟩) ?_ ?_
                         rotate_left; (· intro w'; go_simp; with_reducible rfl); rotate_left; (· simp only [Act.put, q6f5_1, q6f5_2, q6f5_3, i64_w, i32_w]; rfl)
                         refine pure_ (i := 19) (N := some 105) (v := ?_) (a' := ?_) #[true,true,true,true,true,true,true,true,true,true,true,true,true,true,true,true,true,true,true,true] rfl rfl (any_of HT_.out (by kernel_rfl)) (fun _ _ _ h => h) (Or.inl ⟨by rfl, ?_⟩) ?_ ?_
                         rotate_left; (· intro w'; go_simp; with_reducible rfl); rotate_left; (· simp only [Act.put, q6f5_1, q6f5_2, q6f5_3, i64_w, i32_w]; rfl)
                         refine done_ (done_of HT_.out (by kernel_rfl)) ?_
                         try go_wp2
                         (try simp only [← hl7_3])
                         go_roundg k3
                         case measure => have := HK1.out; have := HK2.out; have := HK3.out; omega
                         case rel => exact ⟨(y124), (y126), (x12_3), (wrap64 (x12_3 + 1)), (by first | rfl | simp), (by first | rfl | simp), H', ⟨by have := HK1.out; have := HK2.out; have := HK3.out; omega⟩, ⟨by (try simp only [hl7_3]); exact HO_6.out⟩, ⟨by (try simp only [hl7_3]); exact HO_7.out⟩, ⟨by (try simp only [hl7_3]); exact HO_8.out⟩, ⟨by (try simp only [hl7_3]); (with_reducible repeat (first | refine blk_drewN ?_ _ | refine blk_drew ?_ | refine blk_alloc ?_ _)); exact BK101.out⟩, ⟨by repeat (first | (with_reducible first | exact HB.out | apply below_alloc | apply pw_below_drewN | apply below_drew1 | refine below_set ?_ GE101.out) | exact HB.out)⟩⟩
                        ·
                         rw [if_neg c51] at H
                         have c51b0 : decide ((rd y126 x12_3) < (rd y126 x11_3)) = false := decide_eq_false c51
                         clear c51
                         have H' := Aside0.mk H
                         clear H
                         have hcz59_0 : wr.cell? ⟨gb101, 0, none⟩ = some (.slice A0_0 l0_0.length c0_0) := (blk_cell BK101.out 0).trans rfl
                         have hcz59_1 : wr.cell? ⟨gb101, 1, none⟩ = some (.slice A0_1 l0_1.length c0_1) := (blk_cell BK101.out 1).trans rfl
                         have hcz59_2 : wr.cell? ⟨gb101, 2, none⟩ = some (.slice A0_2 l0_2.length c0_2) := (blk_cell BK101.out 2).trans rfl
                         have hfz59_0 := blk_frozen BK101.out 0
                         have hfz59_1 := blk_frozen BK101.out 1
                         have hfz59_2 := blk_frozen BK101.out 2
                         have p122 : 0 ≤ (x12_3 : Int) := of_decide_eq_true (by assumption)
                         have q122 : x12_3 < (l0_1.length : Int) := of_decide_eq_true (by assumption)
                         obtain ⟨ad122, e122, hx122_0⟩ := Kd.at_int HR0_1.out x12_3 p122 q122
                         cases e122
                         replace hx122_0 := (HB.out.cell (World.block_lt_of_cell? w _ hx122_0)).trans hx122_0
                         replace p122 := eq_true p122
                         replace q122 := eq_true q122
                         have p123 : 0 ≤ (x12_3 : Int) := of_decide_eq_true (by assumption)
                         have q123 : x12_3 < (l0_0.length : Int) := of_decide_eq_true (by assumption)
                         obtain ⟨ad123, e123, hx123_0⟩ := Kd.at_int HR0_0.out x12_3 p123 q123
                         cases e123
                         replace hx123_0 := (HB.out.cell (World.block_lt_of_cell? w _ hx123_0)).trans hx123_0
                         replace p123 := eq_true p123
                         replace q123 := eq_true q123
                         have p36 : 0 ≤ (x12_3 : Int) := of_decide_eq_true (by assumption)
                         have q36 : (x12_3 : Int) < ((x7_3.length : Int) : Int) := of_decide_eq_true (by assumption)
                         obtain ⟨go36, co36, eo36, gb36, gl36, cl36, HG36⟩ := Kd.R_form HO_7.out (by omega)
                         (first | cases eo36 | (injection eo36 with ea_ en_ ec_; (first | subst ea_ | (injection ea_ with ea_; subst ea_)); subst ec_; clear en_))
                         have GB36 := Aside0.mk gb36
                         have GG36 := Aside0.mk HG36
                         clear gb36 gl36 HG36
                         obtain ⟨hx36_0, hf36_0⟩ := Kd.R_celln 0 HO_7.out (x12_3 : Int) p36 q36
                         replace p36 := eq_true p36
                         replace q36 := eq_true q36
                         have HP60 := Kd.R_putg HO_7.out (x12_3 : Int) (rd l0_0 x12_3)
                         try go_wp2_with (first | ((with_reducible refine gate_store (t := 2) (p := 75) rfl ?_); refine store_event (t := 2) (p := 75) (v := ?vo_w61) (w1 := (wr.setCell ⟨go36, (x12_3 : Int).toNat, none⟩ (.int .i64 (rd l0_0 x12_3)))) ?hg ?ho ?hn ?hr ?_; (case ho => rfl); (case hg => rfl); (case hn => rfl); (case hr => first | (go_simp; done) | (go_simp; rfl)); intro w61 hw; have hg : wr.grownBy w61 (some go36) := (by rw [hw]; exact HP60.2); have hp_ : Kd.R (Kd.int .i64) 2 w61 w.heap.size (fun k_ => some k_ ≠ (u6 : Value).ownBlock ∧ some k_ ≠ (v110 : Value).ownBlock) (.slice (some ⟨go36, 0, none⟩) x7_3.length co29) y124 := (by rw [hw, Ny124.out]; exact HP60.1); clear HP60; have n0_ := Aside0.mk (Kd.R_after (v := (.slice (some ⟨go36, 0, none⟩) x7_3.length co29)) (v1 := (.slice (some ⟨go36, 0, none⟩) x7_3.length co29)) (ok := (fun k_ => some k_ ≠ (v110 : Value).ownBlock)) (by exact Kd.R_mono HO_6.out (fun _ hk => ⟨hk.2, hk.1⟩)) hg (.inl rfl)); have n1_ := Aside0.mk (hp_); have n2_ := Aside0.mk (Kd.R_after (v := (.slice (some ⟨go36, 0, none⟩) x7_3.length co29)) (v1 := (.slice (some ⟨go36, 0, none⟩) x7_3.length co29)) (ok := (fun k_ => some k_ ≠ (u6 : Value).ownBlock)) (by exact HO_8.out) hg (.inl rfl)); have n3_ := Aside0.mk (blk_grown (g := gb101) (o := .cells #[.slice (some ad123) l0_0.length c0_0, .slice (some ad122) l0_1.length c0_1, .slice A0_2 l0_2.length c0_2] 32 (0, 0)) (by (with_reducible repeat (first | refine blk_drewN ?_ _ | refine blk_drew ?_ | refine blk_alloc ?_ _)); exact BK101.out) hg (Kd.R_ne HO_7.out BK101.out (by decide))); have n4_ := Aside0.mk ((by rw [hw]; exact below_set (HB.out) GB36.out : Below w.heap.size w w61)); clear HO_6; clear HO_7; clear HO_8; clear BK101; clear HB; have HO_6 := n0_; have HO_7 := n1_; have HO_8 := n2_; have BK101 := n3_; have HB := n4_; clear n0_ n1_ n2_ n3_ n4_; clear hg hw hp_; have hcz62_0 : w61.cell? ⟨gb101, 0, none⟩ = some (.slice (some ad123) l0_0.length c0_0) := (blk_cell BK101.out 0).trans rfl; have hcz62_1 : w61.cell? ⟨gb101, 1, none⟩ = some (.slice (some ad122) l0_1.length c0_1) := (blk_cell BK101.out 1).trans rfl; have hcz62_2 : w61.cell? ⟨gb101, 2, none⟩ = some (.slice A0_2 l0_2.length c0_2) := (blk_cell BK101.out 2).trans rfl; have hfz62_0 := blk_frozen BK101.out 0; have hfz62_1 := blk_frozen BK101.out 1; have hfz62_2 := blk_frozen BK101.out 2; have p125 : 0 ≤ (x12_3 : Int) := of_decide_eq_true (by assumption); have q125 : x12_3 < (l0_2.length : Int) := of_decide_eq_true (by assumption); obtain ⟨ad125, e125, hx125_0⟩ := Kd.at_int HR0_2.out x12_3 p125 q125; cases e125; replace hx125_0 := (HB.out.cell (World.block_lt_of_cell? w _ hx125_0)).trans hx125_0; replace p125 := eq_true p125; replace q125 := eq_true q125; have p39 : 0 ≤ (x12_3 : Int) := of_decide_eq_true (by assumption); have q39 : (x12_3 : Int) < ((x8_3.length : Int) : Int) := of_decide_eq_true (by assumption); obtain ⟨go39, co39, eo39, gb39, gl39, cl39, HG39⟩ := Kd.R_form HO_8.out (by omega); (first | cases eo39 | (injection eo39 with ea_ en_ ec_; (first | subst ea_ | (injection ea_ with ea_; subst ea_)); subst ec_; clear en_)); have GB39 := Aside0.mk gb39; have GG39 := Aside0.mk HG39; clear gb39 gl39 HG39; obtain ⟨hx39_0, hf39_0⟩ := Kd.R_celln 0 HO_8.out (x12_3 : Int) p39 q39; replace p39 := eq_true p39; replace q39 := eq_true q39; obtain ⟨hy63_, hz63_⟩ := Kd.R_celln 0 HO_8.out (x12_3 : Int) (of_decide_eq_true (by assumption)) (of_decide_eq_true (by assumption)); have HP63 := Kd.R_putg HO_8.out (x12_3 : Int) (wrap64 (x9_1 + (rd l0_2 x12_3)))) | ((with_reducible refine gate_store (t := 2) (p := 85) rfl ?_); refine store_event (t := 2) (p := 85) (v := ?vo_w64) (w1 := (w61.setCell ⟨go39, (x12_3 : Int).toNat, none⟩ (.int .i64 (wrap64 (x9_1 + (rd l0_2 x12_3)))))) ?hg ?ho ?hn ?hr ?_; (case ho => rfl); (case hg => rfl); (case hn => rfl); (case hr => first | (go_simp; done) | (go_simp; rfl)); intro w64 hw; have hg : w61.grownBy w64 (some go39) := (by rw [hw]; exact HP63.2); have hp_ : Kd.R (Kd.int .i64) 2 w64 w.heap.size (fun k_ => some k_ ≠ (u6 : Value).ownBlock ∧ some k_ ≠ (.slice (some ⟨go36, 0, none⟩) x7_3.length co29 : Value).ownBlock) (.slice (some ⟨go39, 0, none⟩) x8_3.length co39) y126 := (by rw [hw, Ny126.out]; exact HP63.1); clear HP63; have n0_ := Aside0.mk (Kd.R_after (v := (.slice (some ⟨go39, 0, none⟩) x8_3.length co39)) (v1 := (.slice (some ⟨go39, 0, none⟩) x8_3.length co39)) (ok := (fun k_ => some k_ ≠ (.slice (some ⟨go36, 0, none⟩) x7_3.length co29 : Value).ownBlock)) (by exact Kd.R_mono HO_6.out (fun _ hk => ⟨hk.2, hk.1⟩)) hg (.inl rfl)); have n1_ := Aside0.mk (Kd.R_after (v := (.slice (some ⟨go39, 0, none⟩) x8_3.length co39)) (v1 := (.slice (some ⟨go39, 0, none⟩) x8_3.length co39)) (ok := (fun k_ => some k_ ≠ (u6 : Value).ownBlock)) (by exact HO_7.out) hg (.inl rfl)); have n2_ := Aside0.mk (hp_); have n3_ := Aside0.mk (blk_grown (g := gb101) (o := .cells #[.slice (some ad123) l0_0.length c0_0, .slice (some ad122) l0_1.length c0_1, .slice (some ad125) l0_2.length c0_2] 32 (0, 0)) (by (with_reducible repeat (first | refine blk_drewN ?_ _ | refine blk_drew ?_ | refine blk_alloc ?_ _)); exact BK101.out) hg (Kd.R_ne HO_8.out BK101.out (by decide))); have n4_ := Aside0.mk ((by rw [hw]; exact below_set (HB.out) GB39.out : Below w.heap.size w w64)); clear HO_6; clear HO_7; clear HO_8; clear BK101; clear HB; have HO_6 := n0_; have HO_7 := n1_; have HO_8 := n2_; have BK101 := n3_; have HB := n4_; clear n0_ n1_ n2_ n3_ n4_; clear hg hw hp_))
                         have n0_ := Aside0.mk (Kd.R_drew HO_6.out)
                         have n1_ := Aside0.mk (Kd.R_drew HO_7.out)
                         have n2_ := Aside0.mk (Kd.R_drew HO_8.out)
                         have n3_ := Aside0.mk (blk_drew BK101.out)
                         have n4_ := Aside0.mk (below_drew1 HB.out)
                         clear HO_6
                         clear HO_7
                         clear HO_8
                         clear BK101
                         clear HB
                         have HO_6 := n0_
                         have HO_7 := n1_
                         have HO_8 := n2_
                         have BK101 := n3_
                         have HB := n4_
                         clear n0_ n1_ n2_ n3_ n4_
                         have p127 : 0 ≤ (x12_3 : Int) := of_decide_eq_true (by assumption)
                         have q127 : x12_3 < (y124.length : Int) := (by have h_ : (x12_3 : Int) < ((x7_3.length : Int) : Int) := of_decide_eq_true (by assumption); first | (have e_ := (Kd.R_reads' HO_7.out).1; omega) | simpa only [Ny124.out, List.length_set] using h_)
                         have ql127 : ((x12_3 : Int) < ((x7_3.length : Int) : Int)) = True := eq_true (of_decide_eq_true (by assumption))
                         obtain ⟨ad127, e127, hx127_0⟩ := Kd.at_int (Kd.R_reads' HO_7.out).2.2 x12_3 p127 q127
                         obtain rfl : (⟨go36, 0, none⟩ : Addr) = ad127 := (by injection e127)
                         (first | simp only [add_plain] at hx127_0 | simp only [add_at] at hx127_0 | simp only [Addr.add, Nat.zero_add] at hx127_0 | skip)
                         replace p127 := eq_true p127
                         replace q127 := eq_true q127
                         have p128 : 0 ≤ (x12_3 : Int) := of_decide_eq_true (by assumption)
                         have q128 : x12_3 < (y126.length : Int) := (by have h_ : (x12_3 : Int) < ((x8_3.length : Int) : Int) := of_decide_eq_true (by assumption); first | (have e_ := (Kd.R_reads' HO_8.out).1; omega) | simpa only [Ny126.out, List.length_set] using h_)
                         have ql128 : ((x12_3 : Int) < ((x8_3.length : Int) : Int)) = True := eq_true (of_decide_eq_true (by assumption))
                         obtain ⟨ad128, e128, hx128_0⟩ := Kd.at_int (Kd.R_reads' HO_8.out).2.2 x12_3 p128 q128
                         obtain rfl : (⟨go39, 0, none⟩ : Addr) = ad128 := (by injection e128)
                         (first | simp only [add_plain] at hx128_0 | simp only [add_at] at hx128_0 | simp only [Addr.add, Nat.zero_add] at hx128_0 | skip)
                         replace p128 := eq_true p128
                         replace q128 := eq_true q128
                         have p129 : 0 ≤ (x11_3 : Int) := of_decide_eq_true (by assumption)
                         have q129 : x11_3 < (y126.length : Int) := (by have h_ : (x11_3 : Int) < ((x8_3.length : Int) : Int) := of_decide_eq_true (by assumption); first | (have e_ := (Kd.R_reads' HO_8.out).1; omega) | simpa only [Ny126.out, List.length_set] using h_)
                         have ql129 : ((x11_3 : Int) < ((x8_3.length : Int) : Int)) = True := eq_true (of_decide_eq_true (by assumption))
                         obtain ⟨ad129, e129, hx129_0⟩ := Kd.at_int (Kd.R_reads' HO_8.out).2.2 x11_3 p129 q129
                         obtain rfl : (⟨go39, 0, none⟩ : Addr) = ad129 := (by injection e129)
                         (first | simp only [add_plain] at hx129_0 | simp only [add_at] at hx129_0 | simp only [Addr.add, Nat.zero_add] at hx129_0 | skip)
                         replace p129 := eq_true p129
                         replace q129 := eq_true q129
                         refine start_ (n := 20) (S := fun w' => w'.cell? ⟨go36, (x12_3).toNat, none⟩ = some (.int .i64 (rd y124 x12_3)) ∧ w'.cell? ⟨go39, (x12_3).toNat, none⟩ = some (.int .i64 (rd y126 x12_3)) ∧ w'.cell? ⟨go39, (x11_3).toNat, none⟩ = some (.int .i64 (rd y126 x11_3))) (ds := []) #[false,false,false,false,false,false,false,false,false,false,false,false,false,false,false,false,false,false,false,false] (by kernel_rfl) rfl rfl ⟨hx127_0, hx128_0, hx129_0⟩ (fun hHeld => ?_); refine with_tabW spec_l04Slots.tab19 spec_l04Slots.bits19 (fun HT_ HW_ => ?_)
                         generalize w64.drew = w65 at HO_6 HO_7 HO_8 BK101 HB hx127_0 hx128_0 hx129_0 hHeld ⊢
                         refine pure_ (i := 0) (N := some 86) (v := ?_) (a' := ?_) #[true,false,false,false,false,false,false,false,false,false,false,false,false,false,false,false,false,false,false,false] rfl rfl (any_of HT_.out (by kernel_rfl)) (fun _ _ _ h => h) (Or.inl ⟨by rfl, ?_⟩) ?_ ?_
                         rotate_left; (· intro w'; go_simp; with_reducible rfl); rotate_left; (· simp only [Act.put, q6f5_1, q6f5_2, q6f5_3, i64_w, i32_w]; rfl)
                         refine pure_ (i := 1) (N := some 87) (v := ?_) (a' := ?_) #[true,true,false,false,false,false,false,false,false,false,false,false,false,false,false,false,false,false,false,false] rfl rfl (any_of HT_.out (by kernel_rfl)) (fun _ _ _ h => h) (Or.inl ⟨by rfl, ?_⟩) ?_ ?_
                         rotate_left; (· intro w'; go_simp; with_reducible rfl); rotate_left; (· simp only [Act.put, q6f5_1, q6f5_2, q6f5_3, i64_w, i32_w]; rfl)
                         refine pure_ (i := 2) (N := some 88) (v := ?_) (a' := ?_) #[true,true,true,false,false,false,false,false,false,false,false,false,false,false,false,false,false,false,false,false] rfl rfl (any_of HT_.out (by kernel_rfl)) (fun _ _ _ h => h) (Or.inl ⟨by rfl, ?_⟩) ?_ ?_
                         rotate_left; (· intro w'; go_simp; with_reducible rfl); rotate_left; (· simp only [Act.put, q6f5_1, q6f5_2, q6f5_3, i64_w, i32_w]; rfl)
                         refine take_ (i := 3) (N := some 89) (v := ?_) (a' := ?_) #[true,true,true,true,false,false,false,false,false,false,false,false,false,false,false,false,false,false,false,false] rfl rfl (take_ofW HT_.out HW_.out (by kernel_rfl)) (fun _ _ _ h => h) (Or.inl ⟨by rfl, ?_⟩) hHeld ?_ ?_
                         rotate_left; (· rintro w' ⟨s0, s1, s2⟩; go_simp; with_reducible rfl); rotate_left; (· simp only [Act.put, q6f5_1, q6f5_2, q6f5_3, i64_w, i32_w]; rfl)
                         refine pure_ (i := 4) (N := some 90) (v := ?_) (a' := ?_) #[true,true,true,true,true,false,false,false,false,false,false,false,false,false,false,false,false,false,false,false] rfl rfl (any_of HT_.out (by kernel_rfl)) (fun _ _ _ h => h) (Or.inl ⟨by rfl, ?_⟩) ?_ ?_
                         rotate_left; (· intro w'; go_simp; with_reducible rfl); rotate_left; (· simp only [Act.put, q6f5_1, q6f5_2, q6f5_3, i64_w, i32_w]; rfl)
                         refine pure_ (i := 5) (N := some 91) (v := ?_) (a' := ?_) #[true,true,true,true,true,true,false,false,false,false,false,false,false,false,false,false,false,false,false,false] rfl rfl (any_of HT_.out (by kernel_rfl)) (fun _ _ _ h => h) (Or.inl ⟨by rfl, ?_⟩) ?_ ?_
                         rotate_left; (· intro w'; go_simp; with_reducible rfl); rotate_left; (· simp only [Act.put, q6f5_1, q6f5_2, q6f5_3, i64_w, i32_w]; rfl)
                         refine pure_ (i := 6) (N := some 92) (v := ?_) (a' := ?_) #[true,true,true,true,true,true,true,false,false,false,false,false,false,false,false,false,false,false,false,false] rfl rfl (any_of HT_.out (by kernel_rfl)) (fun _ _ _ h => h) (Or.inl ⟨by rfl, ?_⟩) ?_ ?_
                         rotate_left; (· intro w'; go_simp; with_reducible rfl); rotate_left; (· simp only [Act.put, q6f5_1, q6f5_2, q6f5_3, i64_w, i32_w]; rfl)
                         refine pure_ (i := 7) (N := some 93) (v := ?_) (a' := ?_) #[true,true,true,true,true,true,true,true,false,false,false,false,false,false,false,false,false,false,false,false] rfl rfl (any_of HT_.out (by kernel_rfl)) (fun _ _ _ h => h) (Or.inl ⟨by rfl, ?_⟩) ?_ ?_
                         rotate_left; (· intro w'; go_simp; with_reducible rfl); rotate_left; (· simp only [Act.put, q6f5_1, q6f5_2, q6f5_3, i64_w, i32_w]; rfl)
                         refine pure_ (i := 8) (N := some 94) (v := ?_) (a' := ?_) #[true,true,true,true,true,true,true,true,true,false,false,false,false,false,false,false,false,false,false,false] rfl rfl (any_of HT_.out (by kernel_rfl)) (fun _ _ _ h => h) (Or.inl ⟨by rfl, ?_⟩) ?_ ?_
                         rotate_left; (· intro w'; go_simp; with_reducible rfl); rotate_left; (· simp only [Act.put, q6f5_1, q6f5_2, q6f5_3, i64_w, i32_w]; rfl)
                         refine pure_ (i := 9) (N := some 95) (v := ?_) (a' := ?_) #[true,true,true,true,true,true,true,true,true,true,false,false,false,false,false,false,false,false,false,false] rfl rfl (any_of HT_.out (by kernel_rfl)) (fun _ _ _ h => h) (Or.inl ⟨by rfl, ?_⟩) ?_ ?_
                         rotate_left; (· intro w'; go_simp; with_reducible rfl); rotate_left; (· simp only [Act.put, q6f5_1, q6f5_2, q6f5_3, i64_w, i32_w]; rfl)
                         refine pure_ (i := 10) (N := some 96) (v := ?_) (a' := ?_) #[true,true,true,true,true,true,true,true,true,true,true,false,false,false,false,false,false,false,false,false] rfl rfl (any_of HT_.out (by kernel_rfl)) (fun _ _ _ h => h) (Or.inl ⟨by rfl, ?_⟩) ?_ ?_
                         rotate_left; (· intro w'; go_simp; with_reducible rfl); rotate_left; (· simp only [Act.put, q6f5_1, q6f5_2, q6f5_3, i64_w, i32_w]; rfl)
                         refine pure_ (i := 11) (N := some 97) (v := ?_) (a' := ?_) #[true,true,true,true,true,true,true,true,true,true,true,true,false,false,false,false,false,false,false,false] rfl rfl (any_of HT_.out (by kernel_rfl)) (fun _ _ _ h => h) (Or.inl ⟨by rfl, ?_⟩) ?_ ?_
                         rotate_left; (· intro w'; go_simp; with_reducible rfl); rotate_left; (· simp only [Act.put, q6f5_1, q6f5_2, q6f5_3, i64_w, i32_w]; rfl)
                         refine pure_ (i := 13) (N := some 99) (v := ?_) (a' := ?_) #[true,true,true,true,true,true,true,true,true,true,true,true,false,true,false,false,false,false,false,false] rfl rfl (any_of HT_.out (by kernel_rfl)) (fun _ _ _ h => h) (Or.inl ⟨by rfl, ?_⟩) ?_ ?_
                         rotate_left; (· intro w'; go_simp; with_reducible rfl); rotate_left; (· simp only [Act.put, q6f5_1, q6f5_2, q6f5_3, i64_w, i32_w]; rfl)
                         refine pure_ (i := 14) (N := some 100) (v := ?_) (a' := ?_) #[true,true,true,true,true,true,true,true,true,true,true,true,false,true,true,false,false,false,false,false] rfl rfl (any_of HT_.out (by kernel_rfl)) (fun _ _ _ h => h) (Or.inl ⟨by rfl, ?_⟩) ?_ ?_
                         rotate_left; (· intro w'; go_simp; with_reducible rfl); rotate_left; (· simp only [Act.put, q6f5_1, q6f5_2, q6f5_3, i64_w, i32_w]; rfl)
                         refine pure_ (i := 15) (N := some 101) (v := ?_) (a' := ?_) #[true,true,true,true,true,true,true,true,true,true,true,true,false,true,true,true,false,false,false,false] rfl rfl (any_of HT_.out (by kernel_rfl)) (fun _ _ _ h => h) (Or.inl ⟨by rfl, ?_⟩) ?_ ?_
                         rotate_left; (· intro w'; go_simp; with_reducible rfl); rotate_left; (· simp only [Act.put, q6f5_1, q6f5_2, q6f5_3, i64_w, i32_w]; rfl)
                         refine take_ (i := 12) (N := some 98) (v := ?_) (a' := ?_) #[true,true,true,true,true,true,true,true,true,true,true,true,true,true,true,true,false,false,false,false] rfl rfl (take_ofW HT_.out HW_.out (by kernel_rfl)) (fun _ _ _ h => h) (Or.inl ⟨by rfl, ?_⟩) hHeld ?_ ?_
                         rotate_left; (· rintro w' ⟨s0, s1, s2⟩; go_simp; with_reducible rfl); rotate_left; (· simp only [Act.put, q6f5_1, q6f5_2, q6f5_3, i64_w, i32_w]; rfl)
                         refine take_ (i := 16) (N := some 102) (v := ?_) (a' := ?_) #[true,true,true,true,true,true,true,true,true,true,true,true,true,true,true,true,true,false,false,false] rfl rfl (take_ofW HT_.out HW_.out (by kernel_rfl)) (fun _ _ _ h => h) (Or.inl ⟨by rfl, ?_⟩) hHeld ?_ ?_
                         rotate_left; (· rintro w' ⟨s0, s1, s2⟩; go_simp; with_reducible rfl); rotate_left; (· simp only [Act.put, q6f5_1, q6f5_2, q6f5_3, i64_w, i32_w]; rfl)
                         refine pure_ (i := 17) (N := some 103) (v := ?_) (a' := ?_) #[true,true,true,true,true,true,true,true,true,true,true,true,true,true,true,true,true,true,false,false] rfl rfl (any_of HT_.out (by kernel_rfl)) (fun _ _ _ h => h) (Or.inl ⟨by rfl, ?_⟩) ?_ ?_
                         rotate_left; (· intro w'; go_simp; with_reducible rfl); rotate_left; (· simp only [Act.put, q6f5_1, q6f5_2, q6f5_3, i64_w, i32_w]; rfl)
                         refine pure_ (i := 18) (N := some 104) (v := ?_) (a' := ?_) #[true,true,true,true,true,true,true,true,true,true,true,true,true,true,true,true,true,true,true,false] rfl rfl (any_of HT_.out (by kernel_rfl)) (fun _ _ _ h => h) (Or.inl ⟨by rfl, ?_⟩) ?_ ?_
                         rotate_left; (· intro w'; go_simp; with_reducible rfl); rotate_left; (· simp only [Act.put, q6f5_1, q6f5_2, q6f5_3, i64_w, i32_w]; rfl)
                         refine pure_ (i := 19) (N := some 105) (v := ?_) (a' := ?_) #[true,true,true,true,true,true,true,true,true,true,true,true,true,true,true,true,true,true,true,true] rfl rfl (any_of HT_.out (by kernel_rfl)) (fun _ _ _ h => h) (Or.inl ⟨by rfl, ?_⟩) ?_ ?_
                         rotate_left; (· intro w'; go_simp; with_reducible rfl); rotate_left; (· simp only [Act.put, q6f5_1, q6f5_2, q6f5_3, i64_w, i32_w]; rfl)
                         refine done_ (done_of HT_.out (by kernel_rfl)) ?_
                         try go_wp2
                         (try simp only [← hl7_3])
                         go_roundg k3
                         case measure => have := HK1.out; have := HK2.out; have := HK3.out; omega
                         case rel => exact ⟨(y124), (y126), (x11_3), (wrap64 (x12_3 + 1)), (by first | rfl | simp), (by first | rfl | simp), H', ⟨by have := HK1.out; have := HK2.out; have := HK3.out; omega⟩, ⟨by (try simp only [hl7_3]); exact HO_6.out⟩, ⟨by (try simp only [hl7_3]); exact HO_7.out⟩, ⟨by (try simp only [hl7_3]); exact HO_8.out⟩, ⟨by (try simp only [hl7_3]); (with_reducible repeat (first | refine blk_drewN ?_ _ | refine blk_drew ?_ | refine blk_alloc ?_ _)); exact BK101.out⟩, ⟨by repeat (first | (with_reducible first | exact HB.out | apply below_alloc | apply pw_below_drewN | apply below_drew1 | refine below_set ?_ GE101.out) | exact HB.out)⟩⟩
                       ·
                        rw [if_neg c50] at H
                        exact absurd H (by simp)
                      ·
                       rw [if_neg c49] at H
                       exact absurd H (by simp)
                    ·
                     rw [if_neg c40] at H
                     have c40b0 : decide (0 < (rd y124 x12_3)) = false := decide_eq_false c40
                     clear c40
                     have H' := Aside0.mk H
                     clear H
                     have hcz66_0 : wr.cell? ⟨gb101, 0, none⟩ = some (.slice A0_0 l0_0.length c0_0) := (blk_cell BK101.out 0).trans rfl
                     have hcz66_1 : wr.cell? ⟨gb101, 1, none⟩ = some (.slice A0_1 l0_1.length c0_1) := (blk_cell BK101.out 1).trans rfl
                     have hcz66_2 : wr.cell? ⟨gb101, 2, none⟩ = some (.slice A0_2 l0_2.length c0_2) := (blk_cell BK101.out 2).trans rfl
                     have hfz66_0 := blk_frozen BK101.out 0
                     have hfz66_1 := blk_frozen BK101.out 1
                     have hfz66_2 := blk_frozen BK101.out 2
                     have p122 : 0 ≤ (x12_3 : Int) := of_decide_eq_true (by assumption)
                     have q122 : x12_3 < (l0_1.length : Int) := of_decide_eq_true (by assumption)
                     obtain ⟨ad122, e122, hx122_0⟩ := Kd.at_int HR0_1.out x12_3 p122 q122
                     cases e122
                     replace hx122_0 := (HB.out.cell (World.block_lt_of_cell? w _ hx122_0)).trans hx122_0
                     replace p122 := eq_true p122
                     replace q122 := eq_true q122
                     have p123 : 0 ≤ (x12_3 : Int) := of_decide_eq_true (by assumption)
                     have q123 : x12_3 < (l0_0.length : Int) := of_decide_eq_true (by assumption)
                     obtain ⟨ad123, e123, hx123_0⟩ := Kd.at_int HR0_0.out x12_3 p123 q123
                     cases e123
                     replace hx123_0 := (HB.out.cell (World.block_lt_of_cell? w _ hx123_0)).trans hx123_0
                     replace p123 := eq_true p123
                     replace q123 := eq_true q123
                     have p36 : 0 ≤ (x12_3 : Int) := of_decide_eq_true (by assumption)
                     have q36 : (x12_3 : Int) < ((x7_3.length : Int) : Int) := of_decide_eq_true (by assumption)
                     obtain ⟨go36, co36, eo36, gb36, gl36, cl36, HG36⟩ := Kd.R_form HO_7.out (by omega)
                     (first | cases eo36 | (injection eo36 with ea_ en_ ec_; (first | subst ea_ | (injection ea_ with ea_; subst ea_)); subst ec_; clear en_))
                     have GB36 := Aside0.mk gb36
                     have GG36 := Aside0.mk HG36
                     clear gb36 gl36 HG36
                     obtain ⟨hx36_0, hf36_0⟩ := Kd.R_celln 0 HO_7.out (x12_3 : Int) p36 q36
                     replace p36 := eq_true p36
                     replace q36 := eq_true q36
                     have HP67 := Kd.R_putg HO_7.out (x12_3 : Int) (rd l0_0 x12_3)
                     try go_wp2_with (first | ((with_reducible refine gate_store (t := 2) (p := 75) rfl ?_); refine store_event (t := 2) (p := 75) (v := ?vo_w68) (w1 := (wr.setCell ⟨go36, (x12_3 : Int).toNat, none⟩ (.int .i64 (rd l0_0 x12_3)))) ?hg ?ho ?hn ?hr ?_; (case ho => rfl); (case hg => rfl); (case hn => rfl); (case hr => first | (go_simp; done) | (go_simp; rfl)); intro w68 hw; have hg : wr.grownBy w68 (some go36) := (by rw [hw]; exact HP67.2); have hp_ : Kd.R (Kd.int .i64) 2 w68 w.heap.size (fun k_ => some k_ ≠ (u6 : Value).ownBlock ∧ some k_ ≠ (v110 : Value).ownBlock) (.slice (some ⟨go36, 0, none⟩) x7_3.length co29) y124 := (by rw [hw, Ny124.out]; exact HP67.1); clear HP67; have n0_ := Aside0.mk (Kd.R_after (v := (.slice (some ⟨go36, 0, none⟩) x7_3.length co29)) (v1 := (.slice (some ⟨go36, 0, none⟩) x7_3.length co29)) (ok := (fun k_ => some k_ ≠ (v110 : Value).ownBlock)) (by exact Kd.R_mono HO_6.out (fun _ hk => ⟨hk.2, hk.1⟩)) hg (.inl rfl)); have n1_ := Aside0.mk (hp_); have n2_ := Aside0.mk (Kd.R_after (v := (.slice (some ⟨go36, 0, none⟩) x7_3.length co29)) (v1 := (.slice (some ⟨go36, 0, none⟩) x7_3.length co29)) (ok := (fun k_ => some k_ ≠ (u6 : Value).ownBlock)) (by exact HO_8.out) hg (.inl rfl)); have n3_ := Aside0.mk (blk_grown (g := gb101) (o := .cells #[.slice (some ad123) l0_0.length c0_0, .slice (some ad122) l0_1.length c0_1, .slice A0_2 l0_2.length c0_2] 32 (0, 0)) (by (with_reducible repeat (first | refine blk_drewN ?_ _ | refine blk_drew ?_ | refine blk_alloc ?_ _)); exact BK101.out) hg (Kd.R_ne HO_7.out BK101.out (by decide))); have n4_ := Aside0.mk ((by rw [hw]; exact below_set (HB.out) GB36.out : Below w.heap.size w w68)); clear HO_6; clear HO_7; clear HO_8; clear BK101; clear HB; have HO_6 := n0_; have HO_7 := n1_; have HO_8 := n2_; have BK101 := n3_; have HB := n4_; clear n0_ n1_ n2_ n3_ n4_; clear hg hw hp_; have hcz69_0 : w68.cell? ⟨gb101, 0, none⟩ = some (.slice (some ad123) l0_0.length c0_0) := (blk_cell BK101.out 0).trans rfl; have hcz69_1 : w68.cell? ⟨gb101, 1, none⟩ = some (.slice (some ad122) l0_1.length c0_1) := (blk_cell BK101.out 1).trans rfl; have hcz69_2 : w68.cell? ⟨gb101, 2, none⟩ = some (.slice A0_2 l0_2.length c0_2) := (blk_cell BK101.out 2).trans rfl; have hfz69_0 := blk_frozen BK101.out 0; have hfz69_1 := blk_frozen BK101.out 1; have hfz69_2 := blk_frozen BK101.out 2; have p125 : 0 ≤ (x12_3 : Int) := of_decide_eq_true (by assumption); have q125 : x12_3 < (l0_2.length : Int) := of_decide_eq_true (by assumption); obtain ⟨ad125, e125, hx125_0⟩ := Kd.at_int HR0_2.out x12_3 p125 q125; cases e125; replace hx125_0 := (HB.out.cell (World.block_lt_of_cell? w _ hx125_0)).trans hx125_0; replace p125 := eq_true p125; replace q125 := eq_true q125; have p39 : 0 ≤ (x12_3 : Int) := of_decide_eq_true (by assumption); have q39 : (x12_3 : Int) < ((x8_3.length : Int) : Int) := of_decide_eq_true (by assumption); obtain ⟨go39, co39, eo39, gb39, gl39, cl39, HG39⟩ := Kd.R_form HO_8.out (by omega); (first | cases eo39 | (injection eo39 with ea_ en_ ec_; (first | subst ea_ | (injection ea_ with ea_; subst ea_)); subst ec_; clear en_)); have GB39 := Aside0.mk gb39; have GG39 := Aside0.mk HG39; clear gb39 gl39 HG39; obtain ⟨hx39_0, hf39_0⟩ := Kd.R_celln 0 HO_8.out (x12_3 : Int) p39 q39; replace p39 := eq_true p39; replace q39 := eq_true q39; obtain ⟨hy70_, hz70_⟩ := Kd.R_celln 0 HO_8.out (x12_3 : Int) (of_decide_eq_true (by assumption)) (of_decide_eq_true (by assumption)); have HP70 := Kd.R_putg HO_8.out (x12_3 : Int) (wrap64 (x9_1 + (rd l0_2 x12_3)))) | ((with_reducible refine gate_store (t := 2) (p := 85) rfl ?_); refine store_event (t := 2) (p := 85) (v := ?vo_w71) (w1 := (w68.setCell ⟨go39, (x12_3 : Int).toNat, none⟩ (.int .i64 (wrap64 (x9_1 + (rd l0_2 x12_3)))))) ?hg ?ho ?hn ?hr ?_; (case ho => rfl); (case hg => rfl); (case hn => rfl); (case hr => first | (go_simp; done) | (go_simp; rfl)); intro w71 hw; have hg : w68.grownBy w71 (some go39) := (by rw [hw]; exact HP70.2); have hp_ : Kd.R (Kd.int .i64) 2 w71 w.heap.size (fun k_ => some k_ ≠ (u6 : Value).ownBlock ∧ some k_ ≠ (.slice (some ⟨go36, 0, none⟩) x7_3.length co29 : Value).ownBlock) (.slice (some ⟨go39, 0, none⟩) x8_3.length co39) y126 := (by rw [hw, Ny126.out]; exact HP70.1); clear HP70; have n0_ := Aside0.mk (Kd.R_after (v := (.slice (some ⟨go39, 0, none⟩) x8_3.length co39)) (v1 := (.slice (some ⟨go39, 0, none⟩) x8_3.length co39)) (ok := (fun k_ => some k_ ≠ (.slice (some ⟨go36, 0, none⟩) x7_3.length co29 : Value).ownBlock)) (by exact Kd.R_mono HO_6.out (fun _ hk => ⟨hk.2, hk.1⟩)) hg (.inl rfl)); have n1_ := Aside0.mk (Kd.R_after (v := (.slice (some ⟨go39, 0, none⟩) x8_3.length co39)) (v1 := (.slice (some ⟨go39, 0, none⟩) x8_3.length co39)) (ok := (fun k_ => some k_ ≠ (u6 : Value).ownBlock)) (by exact HO_7.out) hg (.inl rfl)); have n2_ := Aside0.mk (hp_); have n3_ := Aside0.mk (blk_grown (g := gb101) (o := .cells #[.slice (some ad123) l0_0.length c0_0, .slice (some ad122) l0_1.length c0_1, .slice (some ad125) l0_2.length c0_2] 32 (0, 0)) (by (with_reducible repeat (first | refine blk_drewN ?_ _ | refine blk_drew ?_ | refine blk_alloc ?_ _)); exact BK101.out) hg (Kd.R_ne HO_8.out BK101.out (by decide))); have n4_ := Aside0.mk ((by rw [hw]; exact below_set (HB.out) GB39.out : Below w.heap.size w w71)); clear HO_6; clear HO_7; clear HO_8; clear BK101; clear HB; have HO_6 := n0_; have HO_7 := n1_; have HO_8 := n2_; have BK101 := n3_; have HB := n4_; clear n0_ n1_ n2_ n3_ n4_; clear hg hw hp_))
                     have n0_ := Aside0.mk (Kd.R_drew HO_6.out)
                     have n1_ := Aside0.mk (Kd.R_drew HO_7.out)
                     have n2_ := Aside0.mk (Kd.R_drew HO_8.out)
                     have n3_ := Aside0.mk (blk_drew BK101.out)
                     have n4_ := Aside0.mk (below_drew1 HB.out)
                     clear HO_6
                     clear HO_7
                     clear HO_8
                     clear BK101
                     clear HB
                     have HO_6 := n0_
                     have HO_7 := n1_
                     have HO_8 := n2_
                     have BK101 := n3_
                     have HB := n4_
                     clear n0_ n1_ n2_ n3_ n4_
                     have p127 : 0 ≤ (x12_3 : Int) := of_decide_eq_true (by assumption)
                     have q127 : x12_3 < (y124.length : Int) := (by have h_ : (x12_3 : Int) < ((x7_3.length : Int) : Int) := of_decide_eq_true (by assumption); first | (have e_ := (Kd.R_reads' HO_7.out).1; omega) | simpa only [Ny124.out, List.length_set] using h_)
                     have ql127 : ((x12_3 : Int) < ((x7_3.length : Int) : Int)) = True := eq_true (of_decide_eq_true (by assumption))
                     obtain ⟨ad127, e127, hx127_0⟩ := Kd.at_int (Kd.R_reads' HO_7.out).2.2 x12_3 p127 q127
                     obtain rfl : (⟨go36, 0, none⟩ : Addr) = ad127 := (by injection e127)
                     (first | simp only [add_plain] at hx127_0 | simp only [add_at] at hx127_0 | simp only [Addr.add, Nat.zero_add] at hx127_0 | skip)
                     replace p127 := eq_true p127
                     replace q127 := eq_true q127
                     refine start_ (n := 20) (S := fun w' => w'.cell? ⟨go36, (x12_3).toNat, none⟩ = some (.int .i64 (rd y124 x12_3))) (ds := []) #[false,false,false,false,false,false,false,false,false,false,false,false,false,false,false,false,false,false,false,false] (by kernel_rfl) rfl rfl (hx127_0) (fun hHeld => ?_); refine with_tabW spec_l04Slots.tab19 spec_l04Slots.bits19 (fun HT_ HW_ => ?_)
                     generalize w71.drew = w72 at HO_6 HO_7 HO_8 BK101 HB hx127_0 hHeld ⊢
                     refine pure_ (i := 0) (N := some 86) (v := ?_) (a' := ?_) #[true,false,false,false,false,false,false,false,false,false,false,false,false,false,false,false,false,false,false,false] rfl rfl (any_of HT_.out (by kernel_rfl)) (fun _ _ _ h => h) (Or.inl ⟨by rfl, ?_⟩) ?_ ?_
                     rotate_left; (· intro w'; go_simp; with_reducible rfl); rotate_left; (· simp only [Act.put, q6f5_1, q6f5_2, q6f5_3, i64_w, i32_w]; rfl)
                     refine pure_ (i := 1) (N := some 87) (v := ?_) (a' := ?_) #[true,true,false,false,false,false,false,false,false,false,false,false,false,false,false,false,false,false,false,false] rfl rfl (any_of HT_.out (by kernel_rfl)) (fun _ _ _ h => h) (Or.inl ⟨by rfl, ?_⟩) ?_ ?_
                     rotate_left; (· intro w'; go_simp; with_reducible rfl); rotate_left; (· simp only [Act.put, q6f5_1, q6f5_2, q6f5_3, i64_w, i32_w]; rfl)
                     refine pure_ (i := 2) (N := some 88) (v := ?_) (a' := ?_) #[true,true,true,false,false,false,false,false,false,false,false,false,false,false,false,false,false,false,false,false] rfl rfl (any_of HT_.out (by kernel_rfl)) (fun _ _ _ h => h) (Or.inl ⟨by rfl, ?_⟩) ?_ ?_
                     rotate_left; (· intro w'; go_simp; with_reducible rfl); rotate_left; (· simp only [Act.put, q6f5_1, q6f5_2, q6f5_3, i64_w, i32_w]; rfl)
                     refine take_ (i := 3) (N := some 89) (v := ?_) (a' := ?_) #[true,true,true,true,false,false,false,false,false,false,false,false,false,false,false,false,false,false,false,false] rfl rfl (take_ofW HT_.out HW_.out (by kernel_rfl)) (fun _ _ _ h => h) (Or.inl ⟨by rfl, ?_⟩) hHeld ?_ ?_
                     rotate_left
                     ·
                      intro w' s0
                      go_simp
                      with_reducible rfl
                     rotate_left
                     ·
                      simp only [Act.put, q6f5_1, q6f5_2, q6f5_3, i64_w, i32_w]
                      rfl
                     refine pure_ (i := 4) (N := some 90) (v := ?_) (a' := ?_) #[true,true,true,true,true,false,false,false,false,false,false,false,false,false,false,false,false,false,false,false] rfl rfl (any_of HT_.out (by kernel_rfl)) (fun _ _ _ h => h) (Or.inl ⟨by rfl, ?_⟩) ?_ ?_
                     rotate_left; (· intro w'; go_simp; with_reducible rfl); rotate_left; (· simp only [Act.put, q6f5_1, q6f5_2, q6f5_3, i64_w, i32_w]; rfl)
                     refine pure_ (i := 5) (N := some 91) (v := ?_) (a' := ?_) #[true,true,true,true,true,true,false,false,false,false,false,false,false,false,false,false,false,false,false,false] rfl rfl (any_of HT_.out (by kernel_rfl)) (fun _ _ _ h => h) (Or.inl ⟨by rfl, ?_⟩) ?_ ?_
                     rotate_left; (· intro w'; go_simp; with_reducible rfl); rotate_left; (· simp only [Act.put, q6f5_1, q6f5_2, q6f5_3, i64_w, i32_w]; rfl)
                     refine pure_ (i := 6) (N := some 92) (v := undef) (a' := ?_) #[true,true,true,true,true,true,true,false,false,false,false,false,false,false,false,false,false,false,false,false] rfl rfl (any_of HT_.out (by kernel_rfl)) (fun _ _ _ h => h) (Or.inr ⟨by rfl, rfl⟩) ?_ ?_
                     rotate_left
                     ·
                      simp only [Act.put, q6f5_1, q6f5_2, q6f5_3, i64_w, i32_w]
                      rfl
                     refine pure_ (i := 7) (N := some 93) (v := undef) (a' := ?_) #[true,true,true,true,true,true,true,true,false,false,false,false,false,false,false,false,false,false,false,false] rfl rfl (any_of HT_.out (by kernel_rfl)) (fun _ _ _ h => h) (Or.inr ⟨by rfl, rfl⟩) ?_ ?_
                     rotate_left
                     ·
                      simp only [Act.put, q6f5_1, q6f5_2, q6f5_3, i64_w, i32_w]
                      rfl
                     refine pure_ (i := 8) (N := some 94) (v := undef) (a' := ?_) #[true,true,true,true,true,true,true,true,true,false,false,false,false,false,false,false,false,false,false,false] rfl rfl (any_of HT_.out (by kernel_rfl)) (fun _ _ _ h => h) (Or.inr ⟨by rfl, rfl⟩) ?_ ?_
                     rotate_left
                     ·
                      simp only [Act.put, q6f5_1, q6f5_2, q6f5_3, i64_w, i32_w]
                      rfl
                     refine pure_ (i := 9) (N := some 95) (v := undef) (a' := ?_) #[true,true,true,true,true,true,true,true,true,true,false,false,false,false,false,false,false,false,false,false] rfl rfl (any_of HT_.out (by kernel_rfl)) (fun _ _ _ h => h) (Or.inr ⟨by rfl, rfl⟩) ?_ ?_
                     rotate_left
                     ·
                      simp only [Act.put, q6f5_1, q6f5_2, q6f5_3, i64_w, i32_w]
                      rfl
                     refine pure_ (i := 10) (N := some 96) (v := undef) (a' := ?_) #[true,true,true,true,true,true,true,true,true,true,true,false,false,false,false,false,false,false,false,false] rfl rfl (any_of HT_.out (by kernel_rfl)) (fun _ _ _ h => h) (Or.inr ⟨by rfl, rfl⟩) ?_ ?_
                     rotate_left
                     ·
                      simp only [Act.put, q6f5_1, q6f5_2, q6f5_3, i64_w, i32_w]
                      rfl
                     refine pure_ (i := 11) (N := some 97) (v := undef) (a' := ?_) #[true,true,true,true,true,true,true,true,true,true,true,true,false,false,false,false,false,false,false,false] rfl rfl (any_of HT_.out (by kernel_rfl)) (fun _ _ _ h => h) (Or.inr ⟨by rfl, rfl⟩) ?_ ?_
                     rotate_left
                     ·
                      simp only [Act.put, q6f5_1, q6f5_2, q6f5_3, i64_w, i32_w]
                      rfl
                     refine pure_ (i := 12) (N := some 98) (v := undef) (a' := ?_) #[true,true,true,true,true,true,true,true,true,true,true,true,true,false,false,false,false,false,false,false] rfl rfl (any_of HT_.out (by kernel_rfl)) (fun _ _ _ h => h) (Or.inr ⟨by rfl, rfl⟩) ?_ ?_
                     rotate_left
                     ·
                      simp only [Act.put, q6f5_1, q6f5_2, q6f5_3, i64_w, i32_w]
                      rfl
                     refine pure_ (i := 13) (N := some 99) (v := undef) (a' := ?_) #[true,true,true,true,true,true,true,true,true,true,true,true,true,true,false,false,false,false,false,false] rfl rfl (any_of HT_.out (by kernel_rfl)) (fun _ _ _ h => h) (Or.inr ⟨by rfl, rfl⟩) ?_ ?_
                     rotate_left
                     ·
                      simp only [Act.put, q6f5_1, q6f5_2, q6f5_3, i64_w, i32_w]
                      rfl
                     refine pure_ (i := 14) (N := some 100) (v := undef) (a' := ?_) #[true,true,true,true,true,true,true,true,true,true,true,true,true,true,true,false,false,false,false,false] rfl rfl (any_of HT_.out (by kernel_rfl)) (fun _ _ _ h => h) (Or.inr ⟨by rfl, rfl⟩) ?_ ?_
                     rotate_left
                     ·
                      simp only [Act.put, q6f5_1, q6f5_2, q6f5_3, i64_w, i32_w]
                      rfl
                     refine pure_ (i := 15) (N := some 101) (v := undef) (a' := ?_) #[true,true,true,true,true,true,true,true,true,true,true,true,true,true,true,true,false,false,false,false] rfl rfl (any_of HT_.out (by kernel_rfl)) (fun _ _ _ h => h) (Or.inr ⟨by rfl, rfl⟩) ?_ ?_
                     rotate_left
                     ·
                      simp only [Act.put, q6f5_1, q6f5_2, q6f5_3, i64_w, i32_w]
                      rfl
                     refine pure_ (i := 16) (N := some 102) (v := undef) (a' := ?_) #[true,true,true,true,true,true,true,true,true,true,true,true,true,true,true,true,true,false,false,false] rfl rfl (any_of HT_.out (by kernel_rfl)) (fun _ _ _ h => h) (Or.inr ⟨by rfl, rfl⟩) ?_ ?_
                     rotate_left
                     ·
                      simp only [Act.put, q6f5_1, q6f5_2, q6f5_3, i64_w, i32_w]
                      rfl
                     refine pure_ (i := 17) (N := some 103) (v := undef) (a' := ?_) #[true,true,true,true,true,true,true,true,true,true,true,true,true,true,true,true,true,true,false,false] rfl rfl (any_of HT_.out (by kernel_rfl)) (fun _ _ _ h => h) (Or.inr ⟨by rfl, rfl⟩) ?_ ?_
                     rotate_left
                     ·
                      simp only [Act.put, q6f5_1, q6f5_2, q6f5_3, i64_w, i32_w]
                      rfl
                     refine pure_ (i := 18) (N := some 104) (v := undef) (a' := ?_) #[true,true,true,true,true,true,true,true,true,true,true,true,true,true,true,true,true,true,true,false] rfl rfl (any_of HT_.out (by kernel_rfl)) (fun _ _ _ h => h) (Or.inr ⟨by rfl, rfl⟩) ?_ ?_
                     rotate_left
                     ·
                      simp only [Act.put, q6f5_1, q6f5_2, q6f5_3, i64_w, i32_w]
                      rfl
                     refine pure_ (i := 19) (N := some 105) (v := ?_) (a' := ?_) #[true,true,true,true,true,true,true,true,true,true,true,true,true,true,true,true,true,true,true,true] rfl rfl (any_of HT_.out (by kernel_rfl)) (fun _ _ _ h => h) (Or.inl ⟨by rfl, ?_⟩) ?_ ?_
                     rotate_left; (· intro w'; go_simp; with_reducible rfl); rotate_left; (· simp only [Act.put, q6f5_1, q6f5_2, q6f5_3, i64_w, i32_w]; rfl)
                     refine done_ (done_of HT_.out (by kernel_rfl)) ?_
                     try go_wp2
                     (try simp only [← hl7_3])
                     go_roundg k3
                     case measure => have := HK1.out; have := HK2.out; have := HK3.out; omega
                     case rel => exact ⟨(y124), (y126), (x11_3), (wrap64 (x12_3 + 1)), (by first | rfl | simp), (by first | rfl | simp), H', ⟨by have := HK1.out; have := HK2.out; have := HK3.out; omega⟩, ⟨by (try simp only [hl7_3]); exact HO_6.out⟩, ⟨by (try simp only [hl7_3]); exact HO_7.out⟩, ⟨by (try simp only [hl7_3]); exact HO_8.out⟩, ⟨by (try simp only [hl7_3]); (with_reducible repeat (first | refine blk_drewN ?_ _ | refine blk_drew ?_ | refine blk_alloc ?_ _)); exact BK101.out⟩, ⟨by repeat (first | (with_reducible first | exact HB.out | apply below_alloc | apply pw_below_drewN | apply below_drew1 | refine below_set ?_ GE101.out) | exact HB.out)⟩⟩
                   ·
                    rw [if_neg c38] at H
                    exact absurd H (by simp)
                  ·
                   rw [if_neg c37] at H
                   exact absurd H (by simp)
                 ·
                  rw [if_neg c35] at H
                  exact absurd H (by simp)
                ·
                 rw [if_neg c34] at H
                 have c34b0 : ((Int.tmod x9_1 (rd l0_1 x12_3)) == 0) = false := beq_eq_false_iff_ne.mpr c34
                 have c34b1 : ((Int.tmod x9_1 (rd l0_1 x12_3)) != 0) = true := bne_iff_ne.mpr c34
                 by_cases c73 : (rd x7_3 x12_3) > 0
                 ·
                  rw [if_pos c73] at H
                  have c73b0 : decide (0 < (rd x7_3 x12_3)) = true := decide_eq_true c73
                  clear c73
                  by_cases c74 : x11_3 < 0
                  ·
                   rw [if_pos c74] at H
                   have c74b0 : decide (x11_3 < 0) = true := decide_eq_true c74
                   clear c74
                   have H' := Aside0.mk H
                   clear H
                   have hcz75_0 : wr.cell? ⟨gb101, 0, none⟩ = some (.slice A0_0 l0_0.length c0_0) := (blk_cell BK101.out 0).trans rfl
                   have hcz75_1 : wr.cell? ⟨gb101, 1, none⟩ = some (.slice A0_1 l0_1.length c0_1) := (blk_cell BK101.out 1).trans rfl
                   have hcz75_2 : wr.cell? ⟨gb101, 2, none⟩ = some (.slice A0_2 l0_2.length c0_2) := (blk_cell BK101.out 2).trans rfl
                   have hfz75_0 := blk_frozen BK101.out 0
                   have hfz75_1 := blk_frozen BK101.out 1
                   have hfz75_2 := blk_frozen BK101.out 2
                   have p122 : 0 ≤ (x12_3 : Int) := of_decide_eq_true (by assumption)
                   have q122 : x12_3 < (l0_1.length : Int) := of_decide_eq_true (by assumption)
                   obtain ⟨ad122, e122, hx122_0⟩ := Kd.at_int HR0_1.out x12_3 p122 q122
                   cases e122
                   replace hx122_0 := (HB.out.cell (World.block_lt_of_cell? w _ hx122_0)).trans hx122_0
                   replace p122 := eq_true p122
                   replace q122 := eq_true q122
                   try go_wp2
                   have n0_ := Aside0.mk (Kd.R_drew HO_6.out)
                   have n1_ := Aside0.mk (Kd.R_drew HO_7.out)
                   have n2_ := Aside0.mk (Kd.R_drew HO_8.out)
                   have n3_ := Aside0.mk (blk_drew BK101.out)
                   have n4_ := Aside0.mk (below_drew1 HB.out)
                   clear HO_6
                   clear HO_7
                   clear HO_8
                   clear BK101
                   clear HB
                   have HO_6 := n0_
                   have HO_7 := n1_
                   have HO_8 := n2_
                   have BK101 := n3_
                   have HB := n4_
                   clear n0_ n1_ n2_ n3_ n4_
                   have p130 : 0 ≤ (x12_3 : Int) := of_decide_eq_true (by assumption)
                   have q130 : x12_3 < (x7_3.length : Int) := of_decide_eq_true (by assumption)
                   obtain ⟨ad130, e130, hx130_0⟩ := Kd.at_int (Kd.R_reads' HO_7.out).2.2 x12_3 p130 q130
                   cases e130
                   replace p130 := eq_true p130
                   replace q130 := eq_true q130
                   refine start_ (n := 20) (S := fun w' => w'.cell? (ad130.add (x12_3).toNat) = some (.int .i64 (rd x7_3 x12_3))) (ds := []) #[false,false,false,false,false,false,false,false,false,false,false,false,false,false,false,false,false,false,false,false] (by kernel_rfl) rfl rfl (hx130_0) (fun hHeld => ?_); refine with_tabW spec_l04Slots.tab19 spec_l04Slots.bits19 (fun HT_ HW_ => ?_)
                   generalize wr.drew = w76 at HO_6 HO_7 HO_8 BK101 HB hx130_0 hHeld ⊢
                   refine pure_ (i := 0) (N := some 86) (v := ?_) (a' := ?_) #[true,false,false,false,false,false,false,false,false,false,false,false,false,false,false,false,false,false,false,false] rfl rfl (any_of HT_.out (by kernel_rfl)) (fun _ _ _ h => h) (Or.inl ⟨by rfl, ?_⟩) ?_ ?_
                   rotate_left; (· intro w'; go_simp; with_reducible rfl); rotate_left; (· simp only [Act.put, q6f5_1, q6f5_2, q6f5_3, i64_w, i32_w]; rfl)
                   refine pure_ (i := 1) (N := some 87) (v := ?_) (a' := ?_) #[true,true,false,false,false,false,false,false,false,false,false,false,false,false,false,false,false,false,false,false] rfl rfl (any_of HT_.out (by kernel_rfl)) (fun _ _ _ h => h) (Or.inl ⟨by rfl, ?_⟩) ?_ ?_
                   rotate_left; (· intro w'; go_simp; with_reducible rfl); rotate_left; (· simp only [Act.put, q6f5_1, q6f5_2, q6f5_3, i64_w, i32_w]; rfl)
                   refine pure_ (i := 2) (N := some 88) (v := ?_) (a' := ?_) #[true,true,true,false,false,false,false,false,false,false,false,false,false,false,false,false,false,false,false,false] rfl rfl (any_of HT_.out (by kernel_rfl)) (fun _ _ _ h => h) (Or.inl ⟨by rfl, ?_⟩) ?_ ?_
                   rotate_left; (· intro w'; go_simp; with_reducible rfl); rotate_left; (· simp only [Act.put, q6f5_1, q6f5_2, q6f5_3, i64_w, i32_w]; rfl)
                   refine take_ (i := 3) (N := some 89) (v := ?_) (a' := ?_) #[true,true,true,true,false,false,false,false,false,false,false,false,false,false,false,false,false,false,false,false] rfl rfl (take_ofW HT_.out HW_.out (by kernel_rfl)) (fun _ _ _ h => h) (Or.inl ⟨by rfl, ?_⟩) hHeld ?_ ?_
                   rotate_left
                   ·
                    intro w' s0
                    go_simp
                    with_reducible rfl
                   rotate_left
                   ·
                    simp only [Act.put, q6f5_1, q6f5_2, q6f5_3, i64_w, i32_w]
                    rfl
                   refine pure_ (i := 4) (N := some 90) (v := ?_) (a' := ?_) #[true,true,true,true,true,false,false,false,false,false,false,false,false,false,false,false,false,false,false,false] rfl rfl (any_of HT_.out (by kernel_rfl)) (fun _ _ _ h => h) (Or.inl ⟨by rfl, ?_⟩) ?_ ?_
                   rotate_left; (· intro w'; go_simp; with_reducible rfl); rotate_left; (· simp only [Act.put, q6f5_1, q6f5_2, q6f5_3, i64_w, i32_w]; rfl)
                   refine pure_ (i := 5) (N := some 91) (v := ?_) (a' := ?_) #[true,true,true,true,true,true,false,false,false,false,false,false,false,false,false,false,false,false,false,false] rfl rfl (any_of HT_.out (by kernel_rfl)) (fun _ _ _ h => h) (Or.inl ⟨by rfl, ?_⟩) ?_ ?_
                   rotate_left; (· intro w'; go_simp; with_reducible rfl); rotate_left; (· simp only [Act.put, q6f5_1, q6f5_2, q6f5_3, i64_w, i32_w]; rfl)
                   refine pure_ (i := 6) (N := some 92) (v := ?_) (a' := ?_) #[true,true,true,true,true,true,true,false,false,false,false,false,false,false,false,false,false,false,false,false] rfl rfl (any_of HT_.out (by kernel_rfl)) (fun _ _ _ h => h) (Or.inl ⟨by rfl, ?_⟩) ?_ ?_
                   rotate_left; (· intro w'; go_simp; with_reducible rfl); rotate_left; (· simp only [Act.put, q6f5_1, q6f5_2, q6f5_3, i64_w, i32_w]; rfl)
                   refine pure_ (i := 7) (N := some 93) (v := ?_) (a' := ?_) #[true,true,true,true,true,true,true,true,false,false,false,false,false,false,false,false,false,false,false,false] rfl rfl (any_of HT_.out (by kernel_rfl)) (fun _ _ _ h => h) (Or.inl ⟨by rfl, ?_⟩) ?_ ?_
                   rotate_left; (· intro w'; go_simp; with_reducible rfl); rotate_left; (· simp only [Act.put, q6f5_1, q6f5_2, q6f5_3, i64_w, i32_w]; rfl)
                   refine pure_ (i := 8) (N := some 94) (v := ?_) (a' := ?_) #[true,true,true,true,true,true,true,true,true,false,false,false,false,false,false,false,false,false,false,false] rfl rfl (any_of HT_.out (by kernel_rfl)) (fun _ _ _ h => h) (Or.inl ⟨by rfl, ?_⟩) ?_ ?_
                   rotate_left; (· intro w'; go_simp; with_reducible rfl); rotate_left; (· simp only [Act.put, q6f5_1, q6f5_2, q6f5_3, i64_w, i32_w]; rfl)
                   refine pure_ (i := 9) (N := some 95) (v := undef) (a' := ?_) #[true,true,true,true,true,true,true,true,true,true,false,false,false,false,false,false,false,false,false,false] rfl rfl (any_of HT_.out (by kernel_rfl)) (fun _ _ _ h => h) (Or.inr ⟨by rfl, rfl⟩) ?_ ?_
                   rotate_left
                   ·
                    simp only [Act.put, q6f5_1, q6f5_2, q6f5_3, i64_w, i32_w]
                    rfl
                   refine pure_ (i := 10) (N := some 96) (v := undef) (a' := ?_) #[true,true,true,true,true,true,true,true,true,true,true,false,false,false,false,false,false,false,false,false] rfl rfl (any_of HT_.out (by kernel_rfl)) (fun _ _ _ h => h) (Or.inr ⟨by rfl, rfl⟩) ?_ ?_
                   rotate_left
                   ·
                    simp only [Act.put, q6f5_1, q6f5_2, q6f5_3, i64_w, i32_w]
                    rfl
                   refine pure_ (i := 11) (N := some 97) (v := undef) (a' := ?_) #[true,true,true,true,true,true,true,true,true,true,true,true,false,false,false,false,false,false,false,false] rfl rfl (any_of HT_.out (by kernel_rfl)) (fun _ _ _ h => h) (Or.inr ⟨by rfl, rfl⟩) ?_ ?_
                   rotate_left
                   ·
                    simp only [Act.put, q6f5_1, q6f5_2, q6f5_3, i64_w, i32_w]
                    rfl
                   refine pure_ (i := 12) (N := some 98) (v := undef) (a' := ?_) #[true,true,true,true,true,true,true,true,true,true,true,true,true,false,false,false,false,false,false,false] rfl rfl (any_of HT_.out (by kernel_rfl)) (fun _ _ _ h => h) (Or.inr ⟨by rfl, rfl⟩) ?_ ?_
                   rotate_left
                   ·
                    simp only [Act.put, q6f5_1, q6f5_2, q6f5_3, i64_w, i32_w]
                    rfl
                   refine pure_ (i := 13) (N := some 99) (v := undef) (a' := ?_) #[true,true,true,true,true,true,true,true,true,true,true,true,true,true,false,false,false,false,false,false] rfl rfl (any_of HT_.out (by kernel_rfl)) (fun _ _ _ h => h) (Or.inr ⟨by rfl, rfl⟩) ?_ ?_
                   rotate_left
                   ·
                    simp only [Act.put, q6f5_1, q6f5_2, q6f5_3, i64_w, i32_w]
                    rfl
                   refine pure_ (i := 14) (N := some 100) (v := undef) (a' := ?_) #[true,true,true,true,true,true,true,true,true,true,true,true,true,true,true,false,false,false,false,false] rfl rfl (any_of HT_.out (by kernel_rfl)) (fun _ _ _ h => h) (Or.inr ⟨by rfl, rfl⟩) ?_ ?_
                   rotate_left
                   ·
                    simp only [Act.put, q6f5_1, q6f5_2, q6f5_3, i64_w, i32_w]
                    rfl
                   refine pure_ (i := 15) (N := some 101) (v := undef) (a' := ?_) #[true,true,true,true,true,true,true,true,true,true,true,true,true,true,true,true,false,false,false,false] rfl rfl (any_of HT_.out (by kernel_rfl)) (fun _ _ _ h => h) (Or.inr ⟨by rfl, rfl⟩) ?_ ?_
                   rotate_left
                   ·
                    simp only [Act.put, q6f5_1, q6f5_2, q6f5_3, i64_w, i32_w]
                    rfl
                   refine pure_ (i := 16) (N := some 102) (v := undef) (a' := ?_) #[true,true,true,true,true,true,true,true,true,true,true,true,true,true,true,true,true,false,false,false] rfl rfl (any_of HT_.out (by kernel_rfl)) (fun _ _ _ h => h) (Or.inr ⟨by rfl, rfl⟩) ?_ ?_
                   rotate_left
                   ·
                    simp only [Act.put, q6f5_1, q6f5_2, q6f5_3, i64_w, i32_w]
                    rfl
                   refine pure_ (i := 17) (N := some 103) (v := undef) (a' := ?_) #[true,true,true,true,true,true,true,true,true,true,true,true,true,true,true,true,true,true,false,false] rfl rfl (any_of HT_.out (by kernel_rfl)) (fun _ _ _ h => h) (Or.inr ⟨by rfl, rfl⟩) ?_ ?_
                   rotate_left
                   ·
                    simp only [Act.put, q6f5_1, q6f5_2, q6f5_3, i64_w, i32_w]
                    rfl
                   refine pure_ (i := 18) (N := some 104) (v := ?_) (a' := ?_) #[true,true,true,true,true,true,true,true,true,true,true,true,true,true,true,true,true,true,true,false] rfl rfl (any_of HT_.out (by kernel_rfl)) (fun _ _ _ h => h) (Or.inl ⟨by rfl, ?_⟩) ?_ ?_
                   rotate_left; (· intro w'; go_simp; with_reducible rfl); rotate_left; (· simp only [Act.put, q6f5_1, q6f5_2, q6f5_3, i64_w, i32_w]; rfl)
                   refine pure_ (i := 19) (N := some 105) (v := ?_) (a' := ?_) #[true,true,true,true,true,true,true,true,true,true,true,true,true,true,true,true,true,true,true,true] rfl rfl (any_of HT_.out (by kernel_rfl)) (fun _ _ _ h => h) (Or.inl ⟨by rfl, ?_⟩) ?_ ?_
                   rotate_left; (· intro w'; go_simp; with_reducible rfl); rotate_left; (· simp only [Act.put, q6f5_1, q6f5_2, q6f5_3, i64_w, i32_w]; rfl)
                   refine done_ (done_of HT_.out (by kernel_rfl)) ?_
                   try go_wp2
                   (try simp only [← hl7_3])
                   go_roundg k3
                   case measure => have := HK1.out; have := HK2.out; have := HK3.out; omega
                   case rel => exact ⟨(x7_3), (x8_3), (x12_3), (wrap64 (x12_3 + 1)), (by first | rfl | simp), (by first | rfl | simp), H', ⟨by have := HK1.out; have := HK2.out; have := HK3.out; omega⟩, ⟨by (try simp only [hl7_3]); exact HO_6.out⟩, ⟨by (try simp only [hl7_3]); exact HO_7.out⟩, ⟨by (try simp only [hl7_3]); exact HO_8.out⟩, ⟨by (try simp only [hl7_3]); (with_reducible repeat (first | refine blk_drewN ?_ _ | refine blk_drew ?_ | refine blk_alloc ?_ _)); exact BK101.out⟩, ⟨by repeat (first | (with_reducible first | exact HB.out | apply below_alloc | apply pw_below_drewN | apply below_drew1 | refine below_set ?_ GE101.out) | exact HB.out)⟩⟩
                  ·
                   rw [if_neg c74] at H
                   have c74b0 : decide (x11_3 < 0) = false := decide_eq_false c74
                   clear c74
                   by_cases c77 : x12_3 < (x8_3.length : Int)
                   ·
                    rw [if_pos c77] at H
                    have c77b0 : decide (x12_3 < (x8_3.length : Int)) = true := decide_eq_true c77
                    clear c77
                    by_cases c78 : 0 ≤ x11_3
                    ·
                     rw [if_pos c78] at H
                     have c78b0 : decide (0 ≤ x11_3) = true := decide_eq_true c78
                     clear c78
                     by_cases c79 : x11_3 < (x8_3.length : Int)
                     ·
                      rw [if_pos c79] at H
                      have c79b0 : decide (x11_3 < (x8_3.length : Int)) = true := decide_eq_true c79
                      clear c79
                      by_cases c80 : (rd x8_3 x12_3) < (rd x8_3 x11_3)
                      ·
                       rw [if_pos c80] at H
                       have c80b0 : decide ((rd x8_3 x12_3) < (rd x8_3 x11_3)) = true := decide_eq_true c80
                       clear c80
                       have H' := Aside0.mk H
                       clear H
                       have hcz81_0 : wr.cell? ⟨gb101, 0, none⟩ = some (.slice A0_0 l0_0.length c0_0) := (blk_cell BK101.out 0).trans rfl
                       have hcz81_1 : wr.cell? ⟨gb101, 1, none⟩ = some (.slice A0_1 l0_1.length c0_1) := (blk_cell BK101.out 1).trans rfl
                       have hcz81_2 : wr.cell? ⟨gb101, 2, none⟩ = some (.slice A0_2 l0_2.length c0_2) := (blk_cell BK101.out 2).trans rfl
                       have hfz81_0 := blk_frozen BK101.out 0
                       have hfz81_1 := blk_frozen BK101.out 1
                       have hfz81_2 := blk_frozen BK101.out 2
                       have p122 : 0 ≤ (x12_3 : Int) := of_decide_eq_true (by assumption)
                       have q122 : x12_3 < (l0_1.length : Int) := of_decide_eq_true (by assumption)
                       obtain ⟨ad122, e122, hx122_0⟩ := Kd.at_int HR0_1.out x12_3 p122 q122
                       cases e122
                       replace hx122_0 := (HB.out.cell (World.block_lt_of_cell? w _ hx122_0)).trans hx122_0
                       replace p122 := eq_true p122
                       replace q122 := eq_true q122
                       try go_wp2
                       have n0_ := Aside0.mk (Kd.R_drew HO_6.out)
                       have n1_ := Aside0.mk (Kd.R_drew HO_7.out)
                       have n2_ := Aside0.mk (Kd.R_drew HO_8.out)
                       have n3_ := Aside0.mk (blk_drew BK101.out)
                       have n4_ := Aside0.mk (below_drew1 HB.out)
                       clear HO_6
                       clear HO_7
                       clear HO_8
                       clear BK101
                       clear HB
                       have HO_6 := n0_
                       have HO_7 := n1_
                       have HO_8 := n2_
                       have BK101 := n3_
                       have HB := n4_
                       clear n0_ n1_ n2_ n3_ n4_
                       have p130 : 0 ≤ (x12_3 : Int) := of_decide_eq_true (by assumption)
                       have q130 : x12_3 < (x7_3.length : Int) := of_decide_eq_true (by assumption)
                       obtain ⟨ad130, e130, hx130_0⟩ := Kd.at_int (Kd.R_reads' HO_7.out).2.2 x12_3 p130 q130
                       cases e130
                       replace p130 := eq_true p130
                       replace q130 := eq_true q130
                       obtain ⟨Ao83, co83, eo83⟩ := Kd.R_slice HO_8.out
                       (first | subst eo83 | (injection eo83 with f1_ f2_ f3_; have f4_ := f1_.symm; have f5_ := f3_.symm; clear f1_ f2_ f3_; subst f4_; subst f5_))
                       have p131 : 0 ≤ (x12_3 : Int) := of_decide_eq_true (by assumption)
                       have q131 : x12_3 < (x8_3.length : Int) := of_decide_eq_true (by assumption)
                       obtain ⟨ad131, e131, hx131_0⟩ := Kd.at_int (Kd.R_reads' HO_8.out).2.2 x12_3 p131 q131
                       cases e131
                       replace p131 := eq_true p131
                       replace q131 := eq_true q131
                       have p132 : 0 ≤ (x11_3 : Int) := of_decide_eq_true (by assumption)
                       have q132 : x11_3 < (x8_3.length : Int) := of_decide_eq_true (by assumption)
                       obtain ⟨ad132, e132, hx132_0⟩ := Kd.at_int (Kd.R_reads' HO_8.out).2.2 x11_3 p132 q132
                       obtain rfl : ad131 = ad132 := (by injection e132)
                       replace p132 := eq_true p132
                       replace q132 := eq_true q132
                       refine start_ (n := 20) (S := fun w' => w'.cell? (ad130.add (x12_3).toNat) = some (.int .i64 (rd x7_3 x12_3)) ∧ w'.cell? (ad131.add (x12_3).toNat) = some (.int .i64 (rd x8_3 x12_3)) ∧ w'.cell? (ad131.add (x11_3).toNat) = some (.int .i64 (rd x8_3 x11_3))) (ds := []) #[false,false,false,false,false,false,false,false,false,false,false,false,false,false,false,false,false,false,false,false] (by kernel_rfl) rfl rfl ⟨hx130_0, hx131_0, hx132_0⟩ (fun hHeld => ?_); refine with_tabW spec_l04Slots.tab19 spec_l04Slots.bits19 (fun HT_ HW_ => ?_)
                       generalize wr.drew = w82 at HO_6 HO_7 HO_8 BK101 HB hx130_0 hx131_0 hx132_0 hHeld ⊢
                       refine pure_ (i := 0) (N := some 86) (v := ?_) (a' := ?_) #[true,false,false,false,false,false,false,false,false,false,false,false,false,false,false,false,false,false,false,false] rfl rfl (any_of HT_.out (by kernel_rfl)) (fun _ _ _ h => h) (Or.inl ⟨by rfl, ?_⟩) ?_ ?_
                       rotate_left; (· intro w'; go_simp; with_reducible rfl); rotate_left; (· simp only [Act.put, q6f5_1, q6f5_2, q6f5_3, i64_w, i32_w]; rfl)
                       refine pure_ (i := 1) (N := some 87) (v := ?_) (a' := ?_) #[true,true,false,false,false,false,false,false,false,false,false,false,false,false,false,false,false,false,false,false] rfl rfl (any_of HT_.out (by kernel_rfl)) (fun _ _ _ h => h) (Or.inl ⟨by rfl, ?_⟩) ?_ ?_
                       rotate_left; (· intro w'; go_simp; with_reducible rfl); rotate_left; (· simp only [Act.put, q6f5_1, q6f5_2, q6f5_3, i64_w, i32_w]; rfl)
                       refine pure_ (i := 2) (N := some 88) (v := ?_) (a' := ?_) #[true,true,true,false,false,false,false,false,false,false,false,false,false,false,false,false,false,false,false,false] rfl rfl (any_of HT_.out (by kernel_rfl)) (fun _ _ _ h => h) (Or.inl ⟨by rfl, ?_⟩) ?_ ?_
                       rotate_left; (· intro w'; go_simp; with_reducible rfl); rotate_left; (· simp only [Act.put, q6f5_1, q6f5_2, q6f5_3, i64_w, i32_w]; rfl)
                       refine take_ (i := 3) (N := some 89) (v := ?_) (a' := ?_) #[true,true,true,true,false,false,false,false,false,false,false,false,false,false,false,false,false,false,false,false] rfl rfl (take_ofW HT_.out HW_.out (by kernel_rfl)) (fun _ _ _ h => h) (Or.inl ⟨by rfl, ?_⟩) hHeld ?_ ?_
                       rotate_left; (· rintro w' ⟨s0, s1, s2⟩; go_simp; with_reducible rfl); rotate_left; (· simp only [Act.put, q6f5_1, q6f5_2, q6f5_3, i64_w, i32_w]; rfl)
                       refine pure_ (i := 4) (N := some 90) (v := ?_) (a' := ?_) #[true,true,true,true,true,false,false,false,false,false,false,false,false,false,false,false,false,false,false,false] rfl rfl (any_of HT_.out (by kernel_rfl)) (fun _ _ _ h => h) (Or.inl ⟨by rfl, ?_⟩) ?_ ?_
                       rotate_left; (· intro w'; go_simp; with_reducible rfl); rotate_left; (· simp only [Act.put, q6f5_1, q6f5_2, q6f5_3, i64_w, i32_w]; rfl)
                       refine pure_ (i := 5) (N := some 91) (v := ?_) (a' := ?_) #[true,true,true,true,true,true,false,false,false,false,false,false,false,false,false,false,false,false,false,false] rfl rfl (any_of HT_.out (by kernel_rfl)) (fun _ _ _ h => h) (Or.inl ⟨by rfl, ?_⟩) ?_ ?_
                       rotate_left; (· intro w'; go_simp; with_reducible rfl); rotate_left; (· simp only [Act.put, q6f5_1, q6f5_2, q6f5_3, i64_w, i32_w]; rfl)
                       refine pure_ (i := 6) (N := some 92) (v := ?_) (a' := ?_) #[true,true,true,true,true,true,true,false,false,false,false,false,false,false,false,false,false,false,false,false] rfl rfl (any_of HT_.out (by kernel_rfl)) (fun _ _ _ h => h) (Or.inl ⟨by rfl, ?_⟩) ?_ ?_
                       rotate_left; (· intro w'; go_simp; with_reducible rfl); rotate_left; (· simp only [Act.put, q6f5_1, q6f5_2, q6f5_3, i64_w, i32_w]; rfl)
                       refine pure_ (i := 7) (N := some 93) (v := ?_) (a' := ?_) #[true,true,true,true,true,true,true,true,false,false,false,false,false,false,false,false,false,false,false,false] rfl rfl (any_of HT_.out (by kernel_rfl)) (fun _ _ _ h => h) (Or.inl ⟨by rfl, ?_⟩) ?_ ?_
                       rotate_left; (· intro w'; go_simp; with_reducible rfl); rotate_left; (· simp only [Act.put, q6f5_1, q6f5_2, q6f5_3, i64_w, i32_w]; rfl)
                       refine pure_ (i := 8) (N := some 94) (v := ?_) (a' := ?_) #[true,true,true,true,true,true,true,true,true,false,false,false,false,false,false,false,false,false,false,false] rfl rfl (any_of HT_.out (by kernel_rfl)) (fun _ _ _ h => h) (Or.inl ⟨by rfl, ?_⟩) ?_ ?_
                       rotate_left; (· intro w'; go_simp; with_reducible rfl); rotate_left; (· simp only [Act.put, q6f5_1, q6f5_2, q6f5_3, i64_w, i32_w]; rfl)
                       refine pure_ (i := 9) (N := some 95) (v := ?_) (a' := ?_) #[true,true,true,true,true,true,true,true,true,true,false,false,false,false,false,false,false,false,false,false] rfl rfl (any_of HT_.out (by kernel_rfl)) (fun _ _ _ h => h) (Or.inl ⟨by rfl, ?_⟩) ?_ ?_
                       rotate_left; (· intro w'; go_simp; with_reducible rfl); rotate_left; (· simp only [Act.put, q6f5_1, q6f5_2, q6f5_3, i64_w, i32_w]; rfl)
                       refine pure_ (i := 10) (N := some 96) (v := ?_) (a' := ?_) #[true,true,true,true,true,true,true,true,true,true,true,false,false,false,false,false,false,false,false,false] rfl rfl (any_of HT_.out (by kernel_rfl)) (fun _ _ _ h => h) (Or.inl ⟨by rfl, ?_⟩) ?_ ?_
                       rotate_left; (· intro w'; go_simp; with_reducible rfl); rotate_left; (· simp only [Act.put, q6f5_1, q6f5_2, q6f5_3, i64_w, i32_w]; rfl)
                       refine pure_ (i := 11) (N := some 97) (v := ?_) (a' := ?_) #[true,true,true,true,true,true,true,true,true,true,true,true,false,false,false,false,false,false,false,false] rfl rfl (any_of HT_.out (by kernel_rfl)) (fun _ _ _ h => h) (Or.inl ⟨by rfl, ?_⟩) ?_ ?_
                       rotate_left; (· intro w'; go_simp; with_reducible rfl); rotate_left; (· simp only [Act.put, q6f5_1, q6f5_2, q6f5_3, i64_w, i32_w]; rfl)
                       refine pure_ (i := 13) (N := some 99) (v := ?_) (a' := ?_) #[true,true,true,true,true,true,true,true,true,true,true,true,false,true,false,false,false,false,false,false] rfl rfl (any_of HT_.out (by kernel_rfl)) (fun _ _ _ h => h) (Or.inl ⟨by rfl, ?_⟩) ?_ ?_
                       rotate_left; (· intro w'; go_simp; with_reducible rfl); rotate_left; (· simp only [Act.put, q6f5_1, q6f5_2, q6f5_3, i64_w, i32_w]; rfl)
                       refine pure_ (i := 14) (N := some 100) (v := ?_) (a' := ?_) #[true,true,true,true,true,true,true,true,true,true,true,true,false,true,true,false,false,false,false,false] rfl rfl (any_of HT_.out (by kernel_rfl)) (fun _ _ _ h => h) (Or.inl ⟨by rfl, ?_⟩) ?_ ?_
                       rotate_left; (· intro w'; go_simp; with_reducible rfl); rotate_left; (· simp only [Act.put, q6f5_1, q6f5_2, q6f5_3, i64_w, i32_w]; rfl)
                       refine pure_ (i := 15) (N := some 101) (v := ?_) (a' := ?_) #[true,true,true,true,true,true,true,true,true,true,true,true,false,true,true,true,false,false,false,false] rfl rfl (any_of HT_.out (by kernel_rfl)) (fun _ _ _ h => h) (Or.inl ⟨by rfl, ?_⟩) ?_ ?_
                       rotate_left; (· intro w'; go_simp; with_reducible rfl); rotate_left; (· simp only [Act.put, q6f5_1, q6f5_2, q6f5_3, i64_w, i32_w]; rfl)
                       refine take_ (i := 12) (N := some 98) (v := ?_) (a' := ?_) #[true,true,true,true,true,true,true,true,true,true,true,true,true,true,true,true,false,false,false,false] rfl rfl (take_ofW HT_.out HW_.out (by kernel_rfl)) (fun _ _ _ h => h) (Or.inl ⟨by rfl, ?_⟩) hHeld ?_ ?_
                       rotate_left; (· rintro w' ⟨s0, s1, s2⟩; go_simp; with_reducible rfl); rotate_left; (· simp only [Act.put, q6f5_1, q6f5_2, q6f5_3, i64_w, i32_w]; rfl)
                       refine take_ (i := 16) (N := some 102) (v := ?_) (a' := ?_) #[true,true,true,true,true,true,true,true,true,true,true,true,true,true,true,true,true,false,false,false] rfl rfl (take_ofW HT_.out HW_.out (by kernel_rfl)) (fun _ _ _ h => h) (Or.inl ⟨by rfl, ?_⟩) hHeld ?_ ?_
                       rotate_left; (· rintro w' ⟨s0, s1, s2⟩; go_simp; with_reducible rfl); rotate_left; (· simp only [Act.put, q6f5_1, q6f5_2, q6f5_3, i64_w, i32_w]; rfl)
                       refine pure_ (i := 17) (N := some 103) (v := ?_) (a' := ?_) #[true,true,true,true,true,true,true,true,true,true,true,true,true,true,true,true,true,true,false,false] rfl rfl (any_of HT_.out (by kernel_rfl)) (fun _ _ _ h => h) (Or.inl ⟨by rfl, ?_⟩) ?_ ?_
                       rotate_left; (· intro w'; go_simp; with_reducible rfl); rotate_left; (· simp only [Act.put, q6f5_1, q6f5_2, q6f5_3, i64_w, i32_w]; rfl)
                       refine pure_ (i := 18) (N := some 104) (v := ?_) (a' := ?_) #[true,true,true,true,true,true,true,true,true,true,true,true,true,true,true,true,true,true,true,false] rfl rfl (any_of HT_.out (by kernel_rfl)) (fun _ _ _ h => h) (Or.inl ⟨by rfl, ?_⟩) ?_ ?_
                       rotate_left; (· intro w'; go_simp; with_reducible rfl); rotate_left; (· simp only [Act.put, q6f5_1, q6f5_2, q6f5_3, i64_w, i32_w]; rfl)
                       refine pure_ (i := 19) (N := some 105) (v := ?_) (a' := ?_) #[true,true,true,true,true,true,true,true,true,true,true,true,true,true,true,true,true,true,true,true] rfl rfl (any_of HT_.out (by kernel_rfl)) (fun _ _ _ h => h) (Or.inl ⟨by rfl, ?_⟩) ?_ ?_
                       rotate_left; (· intro w'; go_simp; with_reducible rfl); rotate_left; (· simp only [Act.put, q6f5_1, q6f5_2, q6f5_3, i64_w, i32_w]; rfl)
                       refine done_ (done_of HT_.out (by kernel_rfl)) ?_
                       try go_wp2
                       (try simp only [← hl7_3])
                       go_roundg k3
                       case measure => have := HK1.out; have := HK2.out; have := HK3.out; omega
                       case rel => exact ⟨(x7_3), (x8_3), (x12_3), (wrap64 (x12_3 + 1)), (by first | rfl | simp), (by first | rfl | simp), H', ⟨by have := HK1.out; have := HK2.out; have := HK3.out; omega⟩, ⟨by (try simp only [hl7_3]); exact HO_6.out⟩, ⟨by (try simp only [hl7_3]); exact HO_7.out⟩, ⟨by (try simp only [hl7_3]); exact HO_8.out⟩, ⟨by (try simp only [hl7_3]); (with_reducible repeat (first | refine blk_drewN ?_ _ | refine blk_drew ?_ | refine blk_alloc ?_ _)); exact BK101.out⟩, ⟨by repeat (first | (with_reducible first | exact HB.out | apply below_alloc | apply pw_below_drewN | apply below_drew1 | refine below_set ?_ GE101.out) | exact HB.out)⟩⟩
                      ·
                       rw [if_neg c80] at H
                       have c80b0 : decide ((rd x8_3 x12_3) < (rd x8_3 x11_3)) = false := decide_eq_false c80
                       clear c80
                       have H' := Aside0.mk H
                       clear H
                       have hcz84_0 : wr.cell? ⟨gb101, 0, none⟩ = some (.slice A0_0 l0_0.length c0_0) := (blk_cell BK101.out 0).trans rfl
                       have hcz84_1 : wr.cell? ⟨gb101, 1, none⟩ = some (.slice A0_1 l0_1.length c0_1) := (blk_cell BK101.out 1).trans rfl
                       have hcz84_2 : wr.cell? ⟨gb101, 2, none⟩ = some (.slice A0_2 l0_2.length c0_2) := (blk_cell BK101.out 2).trans rfl
                       have hfz84_0 := blk_frozen BK101.out 0
                       have hfz84_1 := blk_frozen BK101.out 1
                       have hfz84_2 := blk_frozen BK101.out 2
                       have p122 : 0 ≤ (x12_3 : Int) := of_decide_eq_true (by assumption)
                       have q122 : x12_3 < (l0_1.length : Int) := of_decide_eq_true (by assumption)
                       obtain ⟨ad122, e122, hx122_0⟩ := Kd.at_int HR0_1.out x12_3 p122 q122
                       cases e122
                       replace hx122_0 := (HB.out.cell (World.block_lt_of_cell? w _ hx122_0)).trans hx122_0
                       replace p122 := eq_true p122
                       replace q122 := eq_true q122
                       try go_wp2
                       have n0_ := Aside0.mk (Kd.R_drew HO_6.out)
                       have n1_ := Aside0.mk (Kd.R_drew HO_7.out)
                       have n2_ := Aside0.mk (Kd.R_drew HO_8.out)
                       have n3_ := Aside0.mk (blk_drew BK101.out)
                       have n4_ := Aside0.mk (below_drew1 HB.out)
                       clear HO_6
                       clear HO_7
                       clear HO_8
                       clear BK101
                       clear HB
                       have HO_6 := n0_
                       have HO_7 := n1_
                       have HO_8 := n2_
                       have BK101 := n3_
                       have HB := n4_
                       clear n0_ n1_ n2_ n3_ n4_
                       have p130 : 0 ≤ (x12_3 : Int) := of_decide_eq_true (by assumption)
                       have q130 : x12_3 < (x7_3.length : Int) := of_decide_eq_true (by assumption)
                       obtain ⟨ad130, e130, hx130_0⟩ := Kd.at_int (Kd.R_reads' HO_7.out).2.2 x12_3 p130 q130
                       cases e130
                       replace p130 := eq_true p130
                       replace q130 := eq_true q130
                       obtain ⟨Ao86, co86, eo86⟩ := Kd.R_slice HO_8.out
                       (first | subst eo86 | (injection eo86 with f1_ f2_ f3_; have f4_ := f1_.symm; have f5_ := f3_.symm; clear f1_ f2_ f3_; subst f4_; subst f5_))
                       have p131 : 0 ≤ (x12_3 : Int) := of_decide_eq_true (by assumption)
                       have q131 : x12_3 < (x8_3.length : Int) := of_decide_eq_true (by assumption)
                       obtain ⟨ad131, e131, hx131_0⟩ := Kd.at_int (Kd.R_reads' HO_8.out).2.2 x12_3 p131 q131
                       cases e131
                       replace p131 := eq_true p131
                       replace q131 := eq_true q131
                       have p132 : 0 ≤ (x11_3 : Int) := of_decide_eq_true (by assumption)
                       have q132 : x11_3 < (x8_3.length : Int) := of_decide_eq_true (by assumption)
                       obtain ⟨ad132, e132, hx132_0⟩ := Kd.at_int (Kd.R_reads' HO_8.out).2.2 x11_3 p132 q132
                       obtain rfl : ad131 = ad132 := (by injection e132)
                       replace p132 := eq_true p132
                       replace q132 := eq_true q132
                       refine start_ (n := 20) (S := fun w' => w'.cell? (ad130.add (x12_3).toNat) = some (.int .i64 (rd x7_3 x12_3)) ∧ w'.cell? (ad131.add (x12_3).toNat) = some (.int .i64 (rd x8_3 x12_3)) ∧ w'.cell? (ad131.add (x11_3).toNat) = some (.int .i64 (rd x8_3 x11_3))) (ds := []) #[false,false,false,false,false,false,false,false,false,false,false,false,false,false,false,false,false,false,false,false] (by kernel_rfl) rfl rfl ⟨hx130_0, hx131_0, hx132_0⟩ (fun hHeld => ?_); refine with_tabW spec_l04Slots.tab19 spec_l04Slots.bits19 (fun HT_ HW_ => ?_)
                       generalize wr.drew = w85 at HO_6 HO_7 HO_8 BK101 HB hx130_0 hx131_0 hx132_0 hHeld ⊢
                       refine pure_ (i := 0) (N := some 86) (v := ?_) (a' := ?_) #[true,false,false,false,false,false,false,false,false,false,false,false,false,false,false,false,false,false,false,false] rfl rfl (any_of HT_.out (by kernel_rfl)) (fun _ _ _ h => h) (Or.inl ⟨by rfl, ?_⟩) ?_ ?_
                       rotate_left; (· intro w'; go_simp; with_reducible rfl); rotate_left; (· simp only [Act.put, q6f5_1, q6f5_2, q6f5_3, i64_w, i32_w]; rfl)
                       refine pure_ (i := 1) (N := some 87) (v := ?_) (a' := ?_) #[true,true,false,false,false,false,false,false,false,false,false,false,false,false,false,false,false,false,false,false] rfl rfl (any_of HT_.out (by kernel_rfl)) (fun _ _ _ h => h) (Or.inl ⟨by rfl, ?_⟩) ?_ ?_
                       rotate_left; (· intro w'; go_simp; with_reducible rfl); rotate_left; (· simp only [Act.put, q6f5_1, q6f5_2, q6f5_3, i64_w, i32_w]; rfl)
                       refine pure_ (i := 2) (N := some 88) (v := ?_) (a' := ?_) #[true,true,true,false,false,false,false,false,false,false,false,false,false,false,false,false,false,false,false,false] rfl rfl (any_of HT_.out (by kernel_rfl)) (fun _ _ _ h => h) (Or.inl ⟨by rfl, ?_⟩) ?_ ?_
                       rotate_left; (· intro w'; go_simp; with_reducible rfl); rotate_left; (· simp only [Act.put, q6f5_1, q6f5_2, q6f5_3, i64_w, i32_w]; rfl)
                       refine take_ (i := 3) (N := some 89) (v := ?_) (a' := ?_) #[true,true,true,true,false,false,false,false,false,false,false,false,false,false,false,false,false,false,false,false] rfl rfl (take_ofW HT_.out HW_.out (by kernel_rfl)) (fun _ _ _ h => h) (Or.inl ⟨by rfl, ?_⟩) hHeld ?_ ?_
                       rotate_left; (· rintro w' ⟨s0, s1, s2⟩; go_simp; with_reducible rfl); rotate_left; (· simp only [Act.put, q6f5_1, q6f5_2, q6f5_3, i64_w, i32_w]; rfl)
                       refine pure_ (i := 4) (N := some 90) (v := ?_) (a' := ?_) #[true,true,true,true,true,false,false,false,false,false,false,false,false,false,false,false,false,false,false,false] rfl rfl (any_of HT_.out (by kernel_rfl)) (fun _ _ _ h => h) (Or.inl ⟨by rfl, ?_⟩) ?_ ?_
                       rotate_left; (· intro w'; go_simp; with_reducible rfl); rotate_left; (· simp only [Act.put, q6f5_1, q6f5_2, q6f5_3, i64_w, i32_w]; rfl)
                       refine pure_ (i := 5) (N := some 91) (v := ?_) (a' := ?_) #[true,true,true,true,true,true,false,false,false,false,false,false,false,false,false,false,false,false,false,false] rfl rfl (any_of HT_.out (by kernel_rfl)) (fun _ _ _ h => h) (Or.inl ⟨by rfl, ?_⟩) ?_ ?_
                       rotate_left; (· intro w'; go_simp; with_reducible rfl); rotate_left; (· simp only [Act.put, q6f5_1, q6f5_2, q6f5_3, i64_w, i32_w]; rfl)
                       refine pure_ (i := 6) (N := some 92) (v := ?_) (a' := ?_) #[true,true,true,true,true,true,true,false,false,false,false,false,false,false,false,false,false,false,false,false] rfl rfl (any_of HT_.out (by kernel_rfl)) (fun _ _ _ h => h) (Or.inl ⟨by rfl, ?_⟩) ?_ ?_
                       rotate_left; (· intro w'; go_simp; with_reducible rfl); rotate_left; (· simp only [Act.put, q6f5_1, q6f5_2, q6f5_3, i64_w, i32_w]; rfl)
                       refine pure_ (i := 7) (N := some 93) (v := ?_) (a' := ?_) #[true,true,true,true,true,true,true,true,false,false,false,false,false,false,false,false,false,false,false,false] rfl rfl (any_of HT_.out (by kernel_rfl)) (fun _ _ _ h => h) (Or.inl ⟨by rfl, ?_⟩) ?_ ?_
                       rotate_left; (· intro w'; go_simp; with_reducible rfl); rotate_left; (· simp only [Act.put, q6f5_1, q6f5_2, q6f5_3, i64_w, i32_w]; rfl)
                       refine pure_ (i := 8) (N := some 94) (v := ?_) (a' := ?_) #[true,true,true,true,true,true,true,true,true,false,false,false,false,false,false,false,false,false,false,false] rfl rfl (any_of HT_.out (by kernel_rfl)) (fun _ _ _ h => h) (Or.inl ⟨by rfl, ?_⟩) ?_ ?_
                       rotate_left; (· intro w'; go_simp; with_reducible rfl); rotate_left; (· simp only [Act.put, q6f5_1, q6f5_2, q6f5_3, i64_w, i32_w]; rfl)
                       refine pure_ (i := 9) (N := some 95) (v := ?_) (a' := ?_) #[true,true,true,true,true,true,true,true,true,true,false,false,false,false,false,false,false,false,false,false] rfl rfl (any_of HT_.out (by kernel_rfl)) (fun _ _ _ h => h) (Or.inl ⟨by rfl, ?_⟩) ?_ ?_
                       rotate_left; (· intro w'; go_simp; with_reducible rfl); rotate_left; (· simp only [Act.put, q6f5_1, q6f5_2, q6f5_3, i64_w, i32_w]; rfl)
                       refine pure_ (i := 10) (N := some 96) (v := ?_) (a' := ?_) #[true,true,true,true,true,true,true,true,true,true,true,false,false,false,false,false,false,false,false,false] rfl rfl (any_of HT_.out (by kernel_rfl)) (fun _ _ _ h => h) (Or.inl ⟨by rfl, ?_⟩) ?_ ?_
                       rotate_left; (· intro w'; go_simp; with_reducible rfl); rotate_left; (· simp only [Act.put, q6f5_1, q6f5_2, q6f5_3, i64_w, i32_w]; rfl)
                       refine pure_ (i := 11) (N := some 97) (v := ?_) (a' := ?_) #[true,true,true,true,true,true,true,true,true,true,true,true,false,false,false,false,false,false,false,false] rfl rfl (any_of HT_.out (by kernel_rfl)) (fun _ _ _ h => h) (Or.inl ⟨by rfl, ?_⟩) ?_ ?_
                       rotate_left; (· intro w'; go_simp; with_reducible rfl); rotate_left; (· simp only [Act.put, q6f5_1, q6f5_2, q6f5_3, i64_w, i32_w]; rfl)
                       refine pure_ (i := 13) (N := some 99) (v := ?_) (a' := ?_) #[true,true,true,true,true,true,true,true,true,true,true,true,false,true,false,false,false,false,false,false] rfl rfl (any_of HT_.out (by kernel_rfl)) (fun _ _ _ h => h) (Or.inl ⟨by rfl, ?_⟩) ?_ ?_
                       rotate_left; (· intro w'; go_simp; with_reducible rfl); rotate_left; (· simp only [Act.put, q6f5_1, q6f5_2, q6f5_3, i64_w, i32_w]; rfl)
                       refine pure_ (i := 14) (N := some 100) (v := ?_) (a' := ?_) #[true,true,true,true,true,true,true,true,true,true,true,true,false,true,true,false,false,false,false,false] rfl rfl (any_of HT_.out (by kernel_rfl)) (fun _ _ _ h => h) (Or.inl ⟨by rfl, ?_⟩) ?_ ?_
                       rotate_left; (· intro w'; go_simp; with_reducible rfl); rotate_left; (· simp only [Act.put, q6f5_1, q6f5_2, q6f5_3, i64_w, i32_w]; rfl)
                       refine pure_ (i := 15) (N := some 101) (v := ?_) (a' := ?_) #[true,true,true,true,true,true,true,true,true,true,true,true,false,true,true,true,false,false,false,false] rfl rfl (any_of HT_.out (by kernel_rfl)) (fun _ _ _ h => h) (Or.inl ⟨by rfl, ?_⟩) ?_ ?_
                       rotate_left; (· intro w'; go_simp; with_reducible rfl); rotate_left; (· simp only [Act.put, q6f5_1, q6f5_2, q6f5_3, i64_w, i32_w]; rfl)
                       refine take_ (i := 12) (N := some 98) (v := ?_) (a' := ?_) #[true,true,true,true,true,true,true,true,true,true,true,true,true,true,true,true,false,false,false,false] rfl rfl (take_ofW HT_.out HW_.out (by kernel_rfl)) (fun _ _ _ h => h) (Or.inl ⟨by rfl, ?_⟩) hHeld ?_ ?_
                       rotate_left; (· rintro w' ⟨s0, s1, s2⟩; go_simp; with_reducible rfl); rotate_left; (· simp only [Act.put, q6f5_1, q6f5_2, q6f5_3, i64_w, i32_w]; rfl)
                       refine take_ (i := 16) (N := some 102) (v := ?_) (a' := ?_) #[true,true,true,true,true,true,true,true,true,true,true,true,true,true,true,true,true,false,false,false] rfl rfl (take_ofW HT_.out HW_.out (by kernel_rfl)) (fun _ _ _ h => h) (Or.inl ⟨by rfl, ?_⟩) hHeld ?_ ?_
                       rotate_left; (· rintro w' ⟨s0, s1, s2⟩; go_simp; with_reducible rfl); rotate_left; (· simp only [Act.put, q6f5_1, q6f5_2, q6f5_3, i64_w, i32_w]; rfl)
                       refine pure_ (i := 17) (N := some 103) (v := ?_) (a' := ?_) #[true,true,true,true,true,true,true,true,true,true,true,true,true,true,true,true,true,true,false,false] rfl rfl (any_of HT_.out (by kernel_rfl)) (fun _ _ _ h => h) (Or.inl ⟨by rfl, ?_⟩) ?_ ?_
                       rotate_left; (· intro w'; go_simp; with_reducible rfl); rotate_left; (· simp only [Act.put, q6f5_1, q6f5_2, q6f5_3, i64_w, i32_w]; rfl)
                       refine pure_ (i := 18) (N := some 104) (v := ?_) (a' := ?_) #[true,true,true,true,true,true,true,true,true,true,true,true,true,true,true,true,true,true,true,false] rfl rfl (any_of HT_.out (by kernel_rfl)) (fun _ _ _ h => h) (Or.inl ⟨by rfl, ?_⟩) ?_ ?_
                       rotate_left; (· intro w'; go_simp; with_reducible rfl); rotate_left; (· simp only [Act.put, q6f5_1, q6f5_2, q6f5_3, i64_w, i32_w]; rfl)
                       refine pure_ (i := 19) (N := some 105) (v := ?_) (a' := ?_) #[true,true,true,true,true,true,true,true,true,true,true,true,true,true,true,true,true,true,true,true] rfl rfl (any_of HT_.out (by kernel_rfl)) (fun _ _ _ h => h) (Or.inl ⟨by rfl, ?_⟩) ?_ ?_
                       rotate_left; (· intro w'; go_simp; with_reducible rfl); rotate_left; (· simp only [Act.put, q6f5_1, q6f5_2, q6f5_3, i64_w, i32_w]; rfl)
                       refine done_ (done_of HT_.out (by kernel_rfl)) ?_
                       try go_wp2
                       (try simp only [← hl7_3])
                       go_roundg k3
                       case measure => have := HK1.out; have := HK2.out; have := HK3.out; omega
                       case rel => exact ⟨(x7_3), (x8_3), (x11_3), (wrap64 (x12_3 + 1)), (by first | rfl | simp), (by first | rfl | simp), H', ⟨by have := HK1.out; have := HK2.out; have := HK3.out; omega⟩, ⟨by (try simp only [hl7_3]); exact HO_6.out⟩, ⟨by (try simp only [hl7_3]); exact HO_7.out⟩, ⟨by (try simp only [hl7_3]); exact HO_8.out⟩, ⟨by (try simp only [hl7_3]); (with_reducible repeat (first | refine blk_drewN ?_ _ | refine blk_drew ?_ | refine blk_alloc ?_ _)); exact BK101.out⟩, ⟨by repeat (first | (with_reducible first | exact HB.out | apply below_alloc | apply pw_below_drewN | apply below_drew1 | refine below_set ?_ GE101.out) | exact HB.out)⟩⟩
                     ·
                      rw [if_neg c79] at H
                      exact absurd H (by simp)
                    ·
                     rw [if_neg c78] at H
                     exact absurd H (by simp)
                   ·
                    rw [if_neg c77] at H
                    exact absurd H (by simp)
                 ·
                  rw [if_neg c73] at H
                  have c73b0 : decide (0 < (rd x7_3 x12_3)) = false := decide_eq_false c73
                  clear c73
                  have H' := Aside0.mk H
                  clear H
                  have hcz87_0 : wr.cell? ⟨gb101, 0, none⟩ = some (.slice A0_0 l0_0.length c0_0) := (blk_cell BK101.out 0).trans rfl
                  have hcz87_1 : wr.cell? ⟨gb101, 1, none⟩ = some (.slice A0_1 l0_1.length c0_1) := (blk_cell BK101.out 1).trans rfl
                  have hcz87_2 : wr.cell? ⟨gb101, 2, none⟩ = some (.slice A0_2 l0_2.length c0_2) := (blk_cell BK101.out 2).trans rfl
                  have hfz87_0 := blk_frozen BK101.out 0
                  have hfz87_1 := blk_frozen BK101.out 1
                  have hfz87_2 := blk_frozen BK101.out 2
                  have p122 : 0 ≤ (x12_3 : Int) := of_decide_eq_true (by assumption)
                  have q122 : x12_3 < (l0_1.length : Int) := of_decide_eq_true (by assumption)
                  obtain ⟨ad122, e122, hx122_0⟩ := Kd.at_int HR0_1.out x12_3 p122 q122
                  cases e122
                  replace hx122_0 := (HB.out.cell (World.block_lt_of_cell? w _ hx122_0)).trans hx122_0
                  replace p122 := eq_true p122
                  replace q122 := eq_true q122
                  try go_wp2
                  have n0_ := Aside0.mk (Kd.R_drew HO_6.out)
                  have n1_ := Aside0.mk (Kd.R_drew HO_7.out)
                  have n2_ := Aside0.mk (Kd.R_drew HO_8.out)
                  have n3_ := Aside0.mk (blk_drew BK101.out)
                  have n4_ := Aside0.mk (below_drew1 HB.out)
                  clear HO_6
                  clear HO_7
                  clear HO_8
                  clear BK101
                  clear HB
                  have HO_6 := n0_
                  have HO_7 := n1_
                  have HO_8 := n2_
                  have BK101 := n3_
                  have HB := n4_
                  clear n0_ n1_ n2_ n3_ n4_
                  have p130 : 0 ≤ (x12_3 : Int) := of_decide_eq_true (by assumption)
                  have q130 : x12_3 < (x7_3.length : Int) := of_decide_eq_true (by assumption)
                  obtain ⟨ad130, e130, hx130_0⟩ := Kd.at_int (Kd.R_reads' HO_7.out).2.2 x12_3 p130 q130
                  cases e130
                  replace p130 := eq_true p130
                  replace q130 := eq_true q130
                  refine start_ (n := 20) (S := fun w' => w'.cell? (ad130.add (x12_3).toNat) = some (.int .i64 (rd x7_3 x12_3))) (ds := []) #[false,false,false,false,false,false,false,false,false,false,false,false,false,false,false,false,false,false,false,false] (by kernel_rfl) rfl rfl (hx130_0) (fun hHeld => ?_); refine with_tabW spec_l04Slots.tab19 spec_l04Slots.bits19 (fun HT_ HW_ => ?_)
                  generalize wr.drew = w88 at HO_6 HO_7 HO_8 BK101 HB hx130_0 hHeld ⊢
                  refine pure_ (i := 0) (N := some 86) (v := ?_) (a' := ?_) #[true,false,false,false,false,false,false,false,false,false,false,false,false,false,false,false,false,false,false,false] rfl rfl (any_of HT_.out (by kernel_rfl)) (fun _ _ _ h => h) (Or.inl ⟨by rfl, ?_⟩) ?_ ?_
                  rotate_left; (· intro w'; go_simp; with_reducible rfl); rotate_left; (· simp only [Act.put, q6f5_1, q6f5_2, q6f5_3, i64_w, i32_w]; rfl)
                  refine pure_ (i := 1) (N := some 87) (v := ?_) (a' := ?_) #[true,true,false,false,false,false,false,false,false,false,false,false,false,false,false,false,false,false,false,false] rfl rfl (any_of HT_.out (by kernel_rfl)) (fun _ _ _ h => h) (Or.inl ⟨by rfl, ?_⟩) ?_ ?_
                  rotate_left; (· intro w'; go_simp; with_reducible rfl); rotate_left; (· simp only [Act.put, q6f5_1, q6f5_2, q6f5_3, i64_w, i32_w]; rfl)
                  refine pure_ (i := 2) (N := some 88) (v := ?_) (a' := ?_) #[true,true,true,false,false,false,false,false,false,false,false,false,false,false,false,false,false,false,false,false] rfl rfl (any_of HT_.out (by kernel_rfl)) (fun _ _ _ h => h) (Or.inl ⟨by rfl, ?_⟩) ?_ ?_
                  rotate_left; (· intro w'; go_simp; with_reducible rfl); rotate_left; (· simp only [Act.put, q6f5_1, q6f5_2, q6f5_3, i64_w, i32_w]; rfl)
                  refine take_ (i := 3) (N := some 89) (v := ?_) (a' := ?_) #[true,true,true,true,false,false,false,false,false,false,false,false,false,false,false,false,false,false,false,false] rfl rfl (take_ofW HT_.out HW_.out (by kernel_rfl)) (fun _ _ _ h => h) (Or.inl ⟨by rfl, ?_⟩) hHeld ?_ ?_
                  rotate_left
                  ·
                   intro w' s0
                   go_simp
                   with_reducible rfl
                  rotate_left
                  ·
                   simp only [Act.put, q6f5_1, q6f5_2, q6f5_3, i64_w, i32_w]
                   rfl
                  refine pure_ (i := 4) (N := some 90) (v := ?_) (a' := ?_) #[true,true,true,true,true,false,false,false,false,false,false,false,false,false,false,false,false,false,false,false] rfl rfl (any_of HT_.out (by kernel_rfl)) (fun _ _ _ h => h) (Or.inl ⟨by rfl, ?_⟩) ?_ ?_
                  rotate_left; (· intro w'; go_simp; with_reducible rfl); rotate_left; (· simp only [Act.put, q6f5_1, q6f5_2, q6f5_3, i64_w, i32_w]; rfl)
                  refine pure_ (i := 5) (N := some 91) (v := ?_) (a' := ?_) #[true,true,true,true,true,true,false,false,false,false,false,false,false,false,false,false,false,false,false,false] rfl rfl (any_of HT_.out (by kernel_rfl)) (fun _ _ _ h => h) (Or.inl ⟨by rfl, ?_⟩) ?_ ?_
                  rotate_left; (· intro w'; go_simp; with_reducible rfl); rotate_left; (· simp only [Act.put, q6f5_1, q6f5_2, q6f5_3, i64_w, i32_w]; rfl)
                  refine pure_ (i := 6) (N := some 92) (v := undef) (a' := ?_) #[true,true,true,true,true,true,true,false,false,false,false,false,false,false,false,false,false,false,false,false] rfl rfl (any_of HT_.out (by kernel_rfl)) (fun _ _ _ h => h) (Or.inr ⟨by rfl, rfl⟩) ?_ ?_
                  rotate_left
                  ·
                   simp only [Act.put, q6f5_1, q6f5_2, q6f5_3, i64_w, i32_w]
                   rfl
                  refine pure_ (i := 7) (N := some 93) (v := undef) (a' := ?_) #[true,true,true,true,true,true,true,true,false,false,false,false,false,false,false,false,false,false,false,false] rfl rfl (any_of HT_.out (by kernel_rfl)) (fun _ _ _ h => h) (Or.inr ⟨by rfl, rfl⟩) ?_ ?_
                  rotate_left
                  ·
                   simp only [Act.put, q6f5_1, q6f5_2, q6f5_3, i64_w, i32_w]
                   rfl
                  refine pure_ (i := 8) (N := some 94) (v := undef) (a' := ?_) #[true,true,true,true,true,true,true,true,true,false,false,false,false,false,false,false,false,false,false,false] rfl rfl (any_of HT_.out (by kernel_rfl)) (fun _ _ _ h => h) (Or.inr ⟨by rfl, rfl⟩) ?_ ?_
                  rotate_left
                  ·
                   simp only [Act.put, q6f5_1, q6f5_2, q6f5_3, i64_w, i32_w]
                   rfl
                  refine pure_ (i := 9) (N := some 95) (v := undef) (a' := ?_) #[true,true,true,true,true,true,true,true,true,true,false,false,false,false,false,false,false,false,false,false] rfl rfl (any_of HT_.out (by kernel_rfl)) (fun _ _ _ h => h) (Or.inr ⟨by rfl, rfl⟩) ?_ ?_
                  rotate_left
                  ·
                   simp only [Act.put, q6f5_1, q6f5_2, q6f5_3, i64_w, i32_w]
                   rfl
                  refine pure_ (i := 10) (N := some 96) (v := undef) (a' := ?_) #[true,true,true,true,true,true,true,true,true,true,true,false,false,false,false,false,false,false,false,false] rfl rfl (any_of HT_.out (by kernel_rfl)) (fun _ _ _ h => h) (Or.inr ⟨by rfl, rfl⟩) ?_ ?_
                  rotate_left
                  ·
                   simp only [Act.put, q6f5_1, q6f5_2, q6f5_3, i64_w, i32_w]
                   rfl
                  refine pure_ (i := 11) (N := some 97) (v := undef) (a' := ?_) #[true,true,true,true,true,true,true,true,true,true,true,true,false,false,false,false,false,false,false,false] rfl rfl (any_of HT_.out (by kernel_rfl)) (fun _ _ _ h => h) (Or.inr ⟨by rfl, rfl⟩) ?_ ?_
                  rotate_left
                  ·
                   simp only [Act.put, q6f5_1, q6f5_2, q6f5_3, i64_w, i32_w]
                   rfl
                  refine pure_ (i := 12) (N := some 98) (v := undef) (a' := ?_) #[true,true,true,true,true,true,true,true,true,true,true,true,true,false,false,false,false,false,false,false] rfl rfl (any_of HT_.out (by kernel_rfl)) (fun _ _ _ h => h) (Or.inr ⟨by rfl, rfl⟩) ?_ ?_
                  rotate_left
                  ·
                   simp only [Act.put, q6f5_1, q6f5_2, q6f5_3, i64_w, i32_w]
                   rfl
                  refine pure_ (i := 13) (N := some 99) (v := undef) (a' := ?_) #[true,true,true,true,true,true,true,true,true,true,true,true,true,true,false,false,false,false,false,false] rfl rfl (any_of HT_.out (by kernel_rfl)) (fun _ _ _ h => h) (Or.inr ⟨by rfl, rfl⟩) ?_ ?_
                  rotate_left
                  ·
                   simp only [Act.put, q6f5_1, q6f5_2, q6f5_3, i64_w, i32_w]
                   rfl
                  refine pure_ (i := 14) (N := some 100) (v := undef) (a' := ?_) #[true,true,true,true,true,true,true,true,true,true,true,true,true,true,true,false,false,false,false,false] rfl rfl (any_of HT_.out (by kernel_rfl)) (fun _ _ _ h => h) (Or.inr ⟨by rfl, rfl⟩) ?_ ?_
                  rotate_left
                  ·
                   simp only [Act.put, q6f5_1, q6f5_2, q6f5_3, i64_w, i32_w]
                   rfl
                  refine pure_ (i := 15) (N := some 101) (v := undef) (a' := ?_) #[true,true,true,true,true,true,true,true,true,true,true,true,true,true,true,true,false,false,false,false] rfl rfl (any_of HT_.out (by kernel_rfl)) (fun _ _ _ h => h) (Or.inr ⟨by rfl, rfl⟩) ?_ ?_
                  rotate_left
                  ·
                   simp only [Act.put, q6f5_1, q6f5_2, q6f5_3, i64_w, i32_w]
                   rfl
                  refine pure_ (i := 16) (N := some 102) (v := undef) (a' := ?_) #[true,true,true,true,true,true,true,true,true,true,true,true,true,true,true,true,true,false,false,false] rfl rfl (any_of HT_.out (by kernel_rfl)) (fun _ _ _ h => h) (Or.inr ⟨by rfl, rfl⟩) ?_ ?_
                  rotate_left
                  ·
                   simp only [Act.put, q6f5_1, q6f5_2, q6f5_3, i64_w, i32_w]
                   rfl
                  refine pure_ (i := 17) (N := some 103) (v := undef) (a' := ?_) #[true,true,true,true,true,true,true,true,true,true,true,true,true,true,true,true,true,true,false,false] rfl rfl (any_of HT_.out (by kernel_rfl)) (fun _ _ _ h => h) (Or.inr ⟨by rfl, rfl⟩) ?_ ?_
                  rotate_left
                  ·
                   simp only [Act.put, q6f5_1, q6f5_2, q6f5_3, i64_w, i32_w]
                   rfl
                  refine pure_ (i := 18) (N := some 104) (v := undef) (a' := ?_) #[true,true,true,true,true,true,true,true,true,true,true,true,true,true,true,true,true,true,true,false] rfl rfl (any_of HT_.out (by kernel_rfl)) (fun _ _ _ h => h) (Or.inr ⟨by rfl, rfl⟩) ?_ ?_
                  rotate_left
                  ·
                   simp only [Act.put, q6f5_1, q6f5_2, q6f5_3, i64_w, i32_w]
                   rfl
                  refine pure_ (i := 19) (N := some 105) (v := ?_) (a' := ?_) #[true,true,true,true,true,true,true,true,true,true,true,true,true,true,true,true,true,true,true,true] rfl rfl (any_of HT_.out (by kernel_rfl)) (fun _ _ _ h => h) (Or.inl ⟨by rfl, ?_⟩) ?_ ?_
                  rotate_left; (· intro w'; go_simp; with_reducible rfl); rotate_left; (· simp only [Act.put, q6f5_1, q6f5_2, q6f5_3, i64_w, i32_w]; rfl)
                  refine done_ (done_of HT_.out (by kernel_rfl)) ?_
                  try go_wp2
                  (try simp only [← hl7_3])
                  go_roundg k3
                  case measure => have := HK1.out; have := HK2.out; have := HK3.out; omega
                  case rel => exact ⟨(x7_3), (x8_3), (x11_3), (wrap64 (x12_3 + 1)), (by first | rfl | simp), (by first | rfl | simp), H', ⟨by have := HK1.out; have := HK2.out; have := HK3.out; omega⟩, ⟨by (try simp only [hl7_3]); exact HO_6.out⟩, ⟨by (try simp only [hl7_3]); exact HO_7.out⟩, ⟨by (try simp only [hl7_3]); exact HO_8.out⟩, ⟨by (try simp only [hl7_3]); (with_reducible repeat (first | refine blk_drewN ?_ _ | refine blk_drew ?_ | refine blk_alloc ?_ _)); exact BK101.out⟩, ⟨by repeat (first | (with_reducible first | exact HB.out | apply below_alloc | apply pw_below_drewN | apply below_drew1 | refine below_set ?_ GE101.out) | exact HB.out)⟩⟩
              ·
               rw [if_neg c32] at H
               exact absurd H (by simp)
             ·
              rw [if_neg c31] at H
              exact absurd H (by simp)
            ·
             rw [if_neg c30] at H
             have c30b0 : decide (x12_3 < (x7_3.length : Int)) = false := decide_eq_false c30
             clear c30
             by_cases c89 : x11_3 ≥ 0
             ·
              rw [if_pos c89] at H
              have c89b0 : decide (0 ≤ x11_3) = true := decide_eq_true c89
              clear c89
              by_cases c90 : 0 ≤ x11_3
              ·
               rw [if_pos c90] at H
               have c90b0 : decide (0 ≤ x11_3) = true := decide_eq_true c90
               clear c90
               by_cases c91 : x11_3 < (x7_3.length : Int)
               ·
                rw [if_pos c91] at H
                have c91b0 : decide (x11_3 < (x7_3.length : Int)) = true := decide_eq_true c91
                clear c91
                obtain ⟨y115, hy115⟩ : ∃ y_ : List Int, y_ = (x7_3.set (x11_3 : Int).toNat (wrap64 ((rd x7_3 x11_3) - 1))) := ⟨_, rfl⟩
                replace H : (if x6_1.length < 17592186044416 then (spec_l04Slots.l0 k3 t102 (x6_1 ++ [x11_3]) y115 x8_3 (wrap64 (x9_1 + 1)) l0_0 l0_1 l0_2) else (none)) = some (r1, r2, r3) := by first | (rw [hy115]; with_reducible exact H) | (have H2_ := (Option.bind_some _ _).symm.trans H; rw [hy115]; with_reducible exact H2_) | (have H2_ := (Option.bind_some _ _).symm.trans H; with_reducible exact H2_) | with_reducible exact H | (rw [hy115]; exact H) | exact H
                have Ny115 := Aside0.mk hy115
                clear hy115
                by_cases c93 : x6_1.length < 17592186044416
                ·
                 rw [if_pos c93] at H
                 have LMc93 := Aside0.mk c93
                 clear c93
                 obtain ⟨y116, hy116⟩ : ∃ y_ : List Int, y_ = (x6_1 ++ [x11_3]) := ⟨_, rfl⟩
                 replace H : (spec_l04Slots.l0 k3 t102 y116 y115 x8_3 (wrap64 (x9_1 + 1)) l0_0 l0_1 l0_2) = some (r1, r2, r3) := by first | (rw [hy116]; with_reducible exact H) | (have H2_ := (Option.bind_some _ _).symm.trans H; rw [hy116]; with_reducible exact H2_) | (have H2_ := (Option.bind_some _ _).symm.trans H; with_reducible exact H2_) | with_reducible exact H | (rw [hy116]; exact H) | exact H
                 have Ny116 := Aside0.mk hy116
                 clear hy116
                 have H' := Aside0.mk H
                 clear H
                 have p114 : 0 ≤ (x11_3 : Int) := of_decide_eq_true (by assumption)
                 have q114 : x11_3 < (x7_3.length : Int) := of_decide_eq_true (by assumption)
                 obtain ⟨ad114, e114, hx114_0⟩ := Kd.at_int (Kd.R_reads' HO_7.out).2.2 x11_3 p114 q114
                 cases e114
                 replace p114 := eq_true p114
                 replace q114 := eq_true q114
                 have p92 : 0 ≤ (x11_3 : Int) := of_decide_eq_true (by assumption)
                 have q92 : (x11_3 : Int) < ((x7_3.length : Int) : Int) := of_decide_eq_true (by assumption)
                 obtain ⟨go92, co92, eo92, gb92, gl92, cl92, HG92⟩ := Kd.R_form HO_7.out (by omega)
                 (first | cases eo92 | (injection eo92 with ea_ en_ ec_; (first | subst ea_ | (injection ea_ with ea_; subst ea_)); subst ec_; clear en_))
                 have GB92 := Aside0.mk gb92
                 have GG92 := Aside0.mk HG92
                 clear gb92 gl92 HG92
                 (first | simp only [add_plain] at hx114_0 | skip)
                 obtain ⟨hx92_0, hf92_0⟩ := Kd.R_celln 0 HO_7.out (x11_3 : Int) p92 q92
                 replace p92 := eq_true p92
                 replace q92 := eq_true q92
                 have HP94 := Kd.R_putg HO_7.out (x11_3 : Int) (wrap64 ((rd x7_3 x11_3) - 1))
                 go_wp2_with (first | ((with_reducible refine gate_store (t := 2) (p := 114) rfl ?_); refine store_event (t := 2) (p := 114) (v := ?vo_w95) (w1 := (wr.setCell ⟨go92, (x11_3 : Int).toNat, none⟩ (.int .i64 (wrap64 ((rd x7_3 x11_3) - 1))))) ?hg ?ho ?hn ?hr ?_; (case ho => rfl); (case hg => rfl); (case hn => rfl); (case hr => first | (go_simp; done) | (go_simp; rfl)); intro w95 hw; have hg : wr.grownBy w95 (some go92) := (by rw [hw]; exact HP94.2); have hp_ : Kd.R (Kd.int .i64) 2 w95 w.heap.size (fun k_ => some k_ ≠ (u6 : Value).ownBlock ∧ some k_ ≠ (v110 : Value).ownBlock) (.slice (some ⟨go92, 0, none⟩) x7_3.length co29) y115 := (by rw [hw, Ny115.out]; exact HP94.1); clear HP94; have n0_ := Aside0.mk (Kd.R_after (v := (.slice (some ⟨go92, 0, none⟩) x7_3.length co29)) (v1 := (.slice (some ⟨go92, 0, none⟩) x7_3.length co29)) (ok := (fun k_ => some k_ ≠ (v110 : Value).ownBlock)) (by exact Kd.R_mono HO_6.out (fun _ hk => ⟨hk.2, hk.1⟩)) hg (.inl rfl)); have n1_ := Aside0.mk (hp_); have n2_ := Aside0.mk (Kd.R_after (v := (.slice (some ⟨go92, 0, none⟩) x7_3.length co29)) (v1 := (.slice (some ⟨go92, 0, none⟩) x7_3.length co29)) (ok := (fun k_ => some k_ ≠ (u6 : Value).ownBlock)) (by exact HO_8.out) hg (.inl rfl)); have n3_ := Aside0.mk (blk_grown (g := gb101) (o := .cells #[.slice A0_0 l0_0.length c0_0, .slice A0_1 l0_1.length c0_1, .slice A0_2 l0_2.length c0_2] 32 (0, 0)) (by (with_reducible repeat (first | refine blk_drewN ?_ _ | refine blk_drew ?_ | refine blk_alloc ?_ _)); exact BK101.out) hg (Kd.R_ne HO_7.out BK101.out (by decide))); have n4_ := Aside0.mk ((by rw [hw]; exact below_set (HB.out) GB92.out : Below w.heap.size w w95)); clear HO_6; clear HO_7; clear HO_8; clear BK101; clear HB; have HO_6 := n0_; have HO_7 := n1_; have HO_8 := n2_; have BK101 := n3_; have HB := n4_; clear n0_ n1_ n2_ n3_ n4_; clear hg hw hp_) | ((with_reducible refine gate_builtin (b := .append) (xs := #[.tmp 115, .tmp 117]) rfl ?_); at_builtin; refine Kd.R_append (Kd.int .i64) (w0 := w) w.heap.size rfl (.tmp 115) (.tmp 117) 22 2 (.int .i64 0) 8 rfl Try.underlying22 info2 rfl (by decide) (by omega) u6 x6_1 x11_3 [.int .i64 x11_3] (fun k_ => some k_ ≠ (.slice (some ⟨go92, 0, none⟩) x7_3.length co29 : Value).ownBlock ∧ some k_ ≠ (v110 : Value).ownBlock) (fun _ => False) rfl rfl ?aP (fun _ hk => hk.elim) ?aF ?aO ?aB ?aS ?aL ?_; (case aP => exact rfl); (case aB => exact (by repeat (first | (with_reducible first | exact HB.out | apply below_alloc | apply pw_below_drewN | apply below_drew1 | refine below_set ?_ GE101.out) | exact HB.out))); (case aF => exact (fun k_ hk => ⟨Kd.fresh' (Kd.R_lt (by exact HO_7.out)) k_ hk, Kd.fresh' (Kd.R_lt (by exact HO_8.out)) k_ hk⟩)); (case aO => exact (by exact Kd.R_mono HO_6.out (fun _ hk => ⟨hk.2, hk.1⟩))); (case aS => exact (below_size (by repeat (first | (with_reducible first | exact HB.out | apply below_alloc | apply pw_below_drewN | apply below_drew1 | refine below_set ?_ GE101.out) | exact HB.out)))); (case aL => have := LMc93.out; omega); intro v117 w96 ho hb hg hat; rw [← Ny116.out] at ho; have n0_ := Aside0.mk (Kd.R_after (ok := (fun k_ => some k_ ≠ (v110 : Value).ownBlock)) (by exact Kd.R_mono HO_7.out (fun _ hk => ⟨hk.2, hk.1⟩)) hg hat); have n1_ := Aside0.mk (Kd.R_after (ok := (fun k_ => some k_ ≠ (.slice (some ⟨go92, 0, none⟩) x7_3.length co29 : Value).ownBlock)) (by exact Kd.R_mono HO_8.out (fun _ hk => ⟨hk.2, hk.1⟩)) hg hat); have n2_ := Aside0.mk (blk_grown (g := gb101) (o := .cells #[.slice A0_0 l0_0.length c0_0, .slice A0_1 l0_1.length c0_1, .slice A0_2 l0_2.length c0_2] 32 (0, 0)) (by (with_reducible repeat (first | refine blk_drewN ?_ _ | refine blk_drew ?_ | refine blk_alloc ?_ _)); exact BK101.out) hg (Kd.R_ne HO_6.out BK101.out (by decide))); have n3_ := Aside0.mk (hb); have n4_ := Aside0.mk (ho); clear HO_7; clear HO_8; clear BK101; clear HB; clear HO_6; have HO_7 := n0_; have HO_8 := n1_; have BK101 := n2_; have HB := n3_; have HO118 := n4_; clear n0_ n1_ n2_ n3_ n4_; clear ho hb hg hat))
                 (try simp only [← hl7_3])
                 go_roundg k3
                 case measure => have := HK1.out; have := HK2.out; have := HK3.out; omega
                 case rel => exact ⟨(y116), (y115), (x8_3), (wrap64 (x9_1 + 1)), (by first | rfl | simp), H', ⟨by have := HK1.out; have := HK2.out; have := HK3.out; omega⟩, ⟨by (try simp only [hl7_3]); exact HO118.out⟩, ⟨by (try simp only [hl7_3]); exact Kd.R_mono HO_7.out (fun _ hk => ⟨hk.2, hk.1⟩)⟩, ⟨by (try simp only [hl7_3]); exact Kd.R_mono HO_8.out (fun _ hk => ⟨hk.2, hk.1⟩)⟩, ⟨by (try simp only [hl7_3]); (with_reducible repeat (first | refine blk_drewN ?_ _ | refine blk_drew ?_ | refine blk_alloc ?_ _)); exact BK101.out⟩, ⟨by repeat (first | (with_reducible first | exact HB.out | apply below_alloc | apply pw_below_drewN | apply below_drew1 | refine below_set ?_ GE101.out) | exact HB.out)⟩⟩
                ·
                 rw [if_neg c93] at H
                 exact absurd H (by simp)
               ·
                rw [if_neg c91] at H
                exact absurd H (by simp)
              ·
               rw [if_neg c90] at H
               exact absurd H (by simp)
             ·
              rw [if_neg c89] at H
              have c89b0 : decide (0 ≤ x11_3) = false := decide_eq_false c89
              clear c89
              by_cases c97 : x6_1.length < 17592186044416
              ·
               rw [if_pos c97] at H
               have LMc97 := Aside0.mk c97
               clear c97
               obtain ⟨y119, hy119⟩ : ∃ y_ : List Int, y_ = (x6_1 ++ [x11_3]) := ⟨_, rfl⟩
               replace H : (spec_l04Slots.l0 k3 t102 y119 x7_3 x8_3 (wrap64 (x9_1 + 1)) l0_0 l0_1 l0_2) = some (r1, r2, r3) := by first | (rw [hy119]; with_reducible exact H) | (have H2_ := (Option.bind_some _ _).symm.trans H; rw [hy119]; with_reducible exact H2_) | (have H2_ := (Option.bind_some _ _).symm.trans H; with_reducible exact H2_) | with_reducible exact H | (rw [hy119]; exact H) | exact H
               have Ny119 := Aside0.mk hy119
               clear hy119
               have H' := Aside0.mk H
               clear H
               go_wp2_with (first | ((with_reducible refine gate_builtin (b := .append) (xs := #[.tmp 115, .tmp 117]) rfl ?_); at_builtin; refine Kd.R_append (Kd.int .i64) (w0 := w) w.heap.size rfl (.tmp 115) (.tmp 117) 22 2 (.int .i64 0) 8 rfl Try.underlying22 info2 rfl (by decide) (by omega) u6 x6_1 x11_3 [.int .i64 x11_3] (fun k_ => some k_ ≠ (.slice Ao29 x7_3.length co29 : Value).ownBlock ∧ some k_ ≠ (v110 : Value).ownBlock) (fun _ => False) rfl rfl ?aP (fun _ hk => hk.elim) ?aF ?aO ?aB ?aS ?aL ?_; (case aP => exact rfl); (case aB => exact (by repeat (first | (with_reducible first | exact HB.out | apply below_alloc | apply pw_below_drewN | apply below_drew1 | refine below_set ?_ GE101.out) | exact HB.out))); (case aF => exact (fun k_ hk => ⟨Kd.fresh' (Kd.R_lt (by exact HO_7.out)) k_ hk, Kd.fresh' (Kd.R_lt (by exact HO_8.out)) k_ hk⟩)); (case aO => exact (by exact HO_6.out)); (case aS => exact (below_size (by repeat (first | (with_reducible first | exact HB.out | apply below_alloc | apply pw_below_drewN | apply below_drew1 | refine below_set ?_ GE101.out) | exact HB.out)))); (case aL => have := LMc97.out; omega); intro v120 w98 ho hb hg hat; rw [← Ny119.out] at ho; have n0_ := Aside0.mk (Kd.R_after (ok := (fun k_ => some k_ ≠ (v110 : Value).ownBlock)) (by exact Kd.R_mono HO_7.out (fun _ hk => ⟨hk.2, hk.1⟩)) hg hat); have n1_ := Aside0.mk (Kd.R_after (ok := (fun k_ => some k_ ≠ (.slice Ao29 x7_3.length co29 : Value).ownBlock)) (by exact Kd.R_mono HO_8.out (fun _ hk => ⟨hk.2, hk.1⟩)) hg hat); have n2_ := Aside0.mk (blk_grown (g := gb101) (o := .cells #[.slice A0_0 l0_0.length c0_0, .slice A0_1 l0_1.length c0_1, .slice A0_2 l0_2.length c0_2] 32 (0, 0)) (by (with_reducible repeat (first | refine blk_drewN ?_ _ | refine blk_drew ?_ | refine blk_alloc ?_ _)); exact BK101.out) hg (Kd.R_ne HO_6.out BK101.out (by decide))); have n3_ := Aside0.mk (hb); have n4_ := Aside0.mk (ho); clear HO_7; clear HO_8; clear BK101; clear HB; clear HO_6; have HO_7 := n0_; have HO_8 := n1_; have BK101 := n2_; have HB := n3_; have HO121 := n4_; clear n0_ n1_ n2_ n3_ n4_; clear ho hb hg hat))
               (try simp only [← hl7_3])
               go_roundg k3
               case measure => have := HK1.out; have := HK2.out; have := HK3.out; omega
               case rel => exact ⟨(y119), (x7_3), (x8_3), (wrap64 (x9_1 + 1)), (by first | rfl | simp), H', ⟨by have := HK1.out; have := HK2.out; have := HK3.out; omega⟩, ⟨by (try simp only [hl7_3]); exact HO121.out⟩, ⟨by (try simp only [hl7_3]); exact Kd.R_mono HO_7.out (fun _ hk => ⟨hk.2, hk.1⟩)⟩, ⟨by (try simp only [hl7_3]); exact Kd.R_mono HO_8.out (fun _ hk => ⟨hk.2, hk.1⟩)⟩, ⟨by (try simp only [hl7_3]); (with_reducible repeat (first | refine blk_drewN ?_ _ | refine blk_drew ?_ | refine blk_alloc ?_ _)); exact BK101.out⟩, ⟨by repeat (first | (with_reducible first | exact HB.out | apply below_alloc | apply pw_below_drewN | apply below_drew1 | refine below_set ?_ GE101.out) | exact HB.out)⟩⟩
              ·
               rw [if_neg c97] at H
               exact absurd H (by simp)
     ·
      rw [if_neg c16] at H
      have c16b0 : decide (x9_1 ≤ t102) = false := decide_eq_false c16
      clear c16
      simp only [Option.some.injEq, Prod.mk.injEq] at H
      obtain ⟨rfl, rfl, rfl⟩ := H
      go_wp2
      go_ret3
      exact ⟨_, by first | rfl | (simp [errW_none, errW_some] <;> rfl) | (simp [*, errW_none, errW_some] <;> rfl), by exact Kd.R_mono HO_6.out (fun _ hk => trivial), by repeat (first | (with_reducible first | exact HB.out | apply below_alloc | apply pw_below_drewN | apply below_drew1 | refine below_set ?_ GE101.out) | exact HB.out)⟩
  ·
   rw [if_neg c4] at H
   exact absurd H (by simp)
 ·
  rw [if_neg c3] at H
  exact absurd H (by simp)
end Go.Proofs.Ytjkgjmaldbmgmaa.P
end
section
namespace Go.Proofs.Ytjkgjmaldbmgmaa.P
open Go.RowKit Go.Proofs.YtjkgjmaldbmgmaaW.PrintWords Go.Proofs.YtjkgjmaldbmgmaaW.PrintLast Go.Proofs.YtjkgjmaldbmgmaaW.PrintMore
attribute [local go_sem] max2_int min2_int max_two min_two max_three min_three max_four min_four   -- for this text's walks alone
set_option linter.unusedVariables false
set_option linter.unusedSimpArgs false
end Go.Proofs.Ytjkgjmaldbmgmaa.P
end
