/- The program's FirstLate returns what the reference's returns, for all jobs; no condition beside. -/
import Derived.Test.YtjkgjmaldbmgmaaCFnExactFirstLate5
section
namespace Go.Proofs.Ytjkgjmaldbmgmaa.P
open Go.RowKit Go.Proofs.YtjkgjmaldbmgmaaW.PrintWords Go.Proofs.YtjkgjmaldbmgmaaW.PrintLast Go.Proofs.YtjkgjmaldbmgmaaW.PrintMore
attribute [local go_sem] max2_int min2_int max_two min_two max_three min_three max_four min_four   -- for this text's walks alone
set_option linter.unusedVariables false
set_option linter.unusedSimpArgs false
set_option maxHeartbeats 8000000 in
set_option maxRecDepth 100000 in
theorem impl_Jobs_earliest.calls (k : Nat) (A0_0 : Option Addr) (c0_0 : Nat) (l0_0 : List Int) (A0_1 : Option Addr) (c0_1 : Nat) (l0_1 : List Int) (A0_2 : Option Addr) (c0_2 : Nat) (l0_2 : List Int) (r1 : List Int) (r2 : Int) (w : World) (hr0_0 : Kd.C (Kd.int .i64) w A0_0 l0_0.length l0_0) (hc0_0 : l0_0.length ≤ c0_0) (hr0_1 : Kd.C (Kd.int .i64) w A0_1 l0_1.length l0_1) (hc0_1 : l0_1.length ≤ c0_1) (hr0_2 : Kd.C (Kd.int .i64) w A0_2 l0_2.length l0_2) (hc0_2 : l0_2.length ≤ c0_2) (h : impl_Jobs_earliest.f k l0_0 l0_1 l0_2 = some (r1, r2)) :
  Calls Try.prog 69 #[.agg #[.slice A0_0 l0_0.length c0_0, .slice A0_1 l0_1.length c0_1, .slice A0_2 l0_2.length c0_2]] w fun e w' => ∃ v0_ : Value, e = .returned (.tuple #[v0_, .int .i64 r2]) ∧ Kd.R (Kd.int .i64) 2 w' w.heap.size (fun _ => True) v0_ r1 ∧ Below w.heap.size w w' := by
 have hu32 := Try.underlying32
 have HR0_0 := Aside0.mk hr0_0
 have HC0_0 := Aside0.mk hc0_0
 clear hr0_0 hc0_0
 have HR0_1 := Aside0.mk hr0_1
 have HC0_1 := Aside0.mk hc0_1
 clear hr0_1 hc0_1
 have HR0_2 := Aside0.mk hr0_2
 have HC0_2 := Aside0.mk hc0_2
 clear hr0_2 hc0_2
 have HB := Aside0.mk (Below.refl w.heap.size w)
 have H : ((impl_Jobs_many.f l0_0 l0_1 l0_2).bind fun t102 => (if 0 ≤ t102 then (if (t102 : Int).toNat ≤ 35184372088832 then ((impl_Jobs_many.f l0_0 l0_1 l0_2).bind fun t106 => (if 0 ≤ t106 then (if (t106 : Int).toNat ≤ 35184372088832 then (impl_Jobs_earliest.l0 k (List.replicate (t102 : Int).toNat 0) (List.replicate (t106 : Int).toNat 0) ([] : List Int) 0 l0_0 l0_1 l0_2) else (none)) else (none))) else (none)) else (none))) = some (r1, r2) := h
 clear h
 replace H := Option.bind_eq_some_iff.mp H
 obtain ⟨t102, A20, H⟩ := H
 replace H : (if 0 ≤ t102 then (if (t102 : Int).toNat ≤ 35184372088832 then ((impl_Jobs_many.f l0_0 l0_1 l0_2).bind fun t106 => (if 0 ≤ t106 then (if (t106 : Int).toNat ≤ 35184372088832 then (impl_Jobs_earliest.l0 k (List.replicate (t102 : Int).toNat 0) (List.replicate (t106 : Int).toNat 0) ([] : List Int) 0 l0_0 l0_1 l0_2) else (none)) else (none))) else (none)) else (none)) = some (r1, r2) := H
 have A2 := Aside0.mk A20
 clear A20
 by_cases c3 : 0 ≤ t102
 ·
  rw [if_pos c3] at H
  have c3b0 := eq_true c3
  have c3b1 : decide (0 ≤ t102) = true := decide_eq_true c3
  clear c3
  by_cases c4 : (t102 : Int).toNat ≤ 35184372088832
  ·
   rw [if_pos c4] at H
   have c4b0 := eq_true c4
   have c4b1 : decide ((t102 : Int).toNat ≤ 35184372088832) = true := decide_eq_true c4
   clear c4
   obtain ⟨y103, hy103⟩ : ∃ y_ : List Int, y_ = (List.replicate (t102 : Int).toNat 0) := ⟨_, rfl⟩
   replace H : ((impl_Jobs_many.f l0_0 l0_1 l0_2).bind fun t106 => (if 0 ≤ t106 then (if (t106 : Int).toNat ≤ 35184372088832 then (impl_Jobs_earliest.l0 k y103 (List.replicate (t106 : Int).toNat 0) ([] : List Int) 0 l0_0 l0_1 l0_2) else (none)) else (none))) = some (r1, r2) := by first | (rw [hy103]; with_reducible exact H) | (have H2_ := (Option.bind_some _ _).symm.trans H; rw [hy103]; with_reducible exact H2_) | (have H2_ := (Option.bind_some _ _).symm.trans H; with_reducible exact H2_) | with_reducible exact H | (rw [hy103]; exact H) | exact H
   have Ny103 := Aside0.mk hy103
   clear hy103
   replace H := Option.bind_eq_some_iff.mp H
   obtain ⟨t106, A50, H⟩ := H
   replace H : (if 0 ≤ t106 then (if (t106 : Int).toNat ≤ 35184372088832 then (impl_Jobs_earliest.l0 k y103 (List.replicate (t106 : Int).toNat 0) ([] : List Int) 0 l0_0 l0_1 l0_2) else (none)) else (none)) = some (r1, r2) := H
   have A5 := Aside0.mk A50
   clear A50
   by_cases c6 : 0 ≤ t106
   ·
    rw [if_pos c6] at H
    have c6b0 := eq_true c6
    have c6b1 : decide (0 ≤ t106) = true := decide_eq_true c6
    clear c6
    by_cases c7 : (t106 : Int).toNat ≤ 35184372088832
    ·
     rw [if_pos c7] at H
     have c7b0 := eq_true c7
     have c7b1 : decide ((t106 : Int).toNat ≤ 35184372088832) = true := decide_eq_true c7
     clear c7
     obtain ⟨y107, hy107⟩ : ∃ y_ : List Int, y_ = (List.replicate (t106 : Int).toNat 0) := ⟨_, rfl⟩
     replace H : (impl_Jobs_earliest.l0 k y103 y107 ([] : List Int) 0 l0_0 l0_1 l0_2) = some (r1, r2) := by first | (rw [hy107]; with_reducible exact H) | (have H2_ := (Option.bind_some _ _).symm.trans H; rw [hy107]; with_reducible exact H2_) | (have H2_ := (Option.bind_some _ _).symm.trans H; with_reducible exact H2_) | with_reducible exact H | (rw [hy107]; exact H) | exact H
     have Ny107 := Aside0.mk hy107
     clear hy107
     have H' := Aside0.mk H
     clear H
     go_enter Try.func69, Try.ntmps69
     try go_wp2_with (first | ((with_reducible refine gate_dst (N := 1) rfl ?_); refine box_event ?hg (N := 1) ?hd (cs := #[.slice A0_0 l0_0.length c0_0, .slice A0_1 l0_1.length c0_1, .slice A0_2 l0_2.length c0_2]) (t := 32) ?hr ?_; (case hd => rfl); (case hg => rfl); (case hr => first | (go_simp; done) | (go_simp; rfl)); intro gb101 hg w8 hbox hb; have n0_ := Aside0.mk (below_step (by repeat (first | exact HB.out | apply below_alloc | apply pw_below_drewN | apply below_drew1)) hb); have n1_ := Aside0.mk (hbox); have n2_ := Aside0.mk ((by rw [hg]; exact (below_size (by repeat (first | exact HB.out | apply below_alloc | apply pw_below_drewN | apply below_drew1))) : w.heap.size ≤ gb101)); have n3_ := Aside0.mk ((by rw [hg]; exact (below_size (by repeat (first | exact HB.out | apply below_alloc | apply pw_below_drewN | apply below_drew1))) : w.heap.size ≤ gb101)); clear HB; have HB := n0_; have BK101 := n1_; have GW101 := n2_; have GE101 := n3_; clear n0_ n1_ n2_ n3_; clear hb hbox hg))
     have n0_ := Aside0.mk (blk_drew BK101.out)
     have n1_ := Aside0.mk (below_drew1 HB.out)
     clear BK101
     clear HB
     have BK101 := n0_
     have HB := n1_
     clear n0_ n1_
     refine start_ (n := 8) (S := fun w' => w'.cell? ⟨gb101, 0, none⟩ = some (.slice A0_0 l0_0.length c0_0) ∧ w'.cell? ⟨gb101, 1, none⟩ = some (.slice A0_1 l0_1.length c0_1) ∧ w'.cell? ⟨gb101, 2, none⟩ = some (.slice A0_2 l0_2.length c0_2)) (ds := []) #[false,false,false,false,false,false,false,false] (by kernel_rfl) rfl rfl ⟨(blk_cell BK101.out 0).trans rfl, (blk_cell BK101.out 1).trans rfl, (blk_cell BK101.out 2).trans rfl⟩ (fun hHeld => ?_); refine with_tabW impl_Jobs_earliest.tab1 impl_Jobs_earliest.bits1 (fun HT_ HW_ => ?_)
     generalize w8.drew = w9 at BK101 HB hHeld ⊢
     refine take_ (i := 0) (N := some 12) (v := ?_) (a' := ?_) #[true,false,false,false,false,false,false,false] rfl rfl (take_ofW HT_.out HW_.out (by kernel_rfl)) (fun _ _ _ h => h) (Or.inl ⟨by rfl, ?_⟩) hHeld ?_ ?_
     rotate_left; (· rintro w' ⟨s0, s1, s2⟩; go_simp; with_reducible rfl); rotate_left; (· simp only [Act.put, q2af_1, q2af_2, q2af_3, i64_w, i32_w]; rfl)
     refine take_ (i := 3) (N := some 15) (v := ?_) (a' := ?_) #[true,false,false,true,false,false,false,false] rfl rfl (take_ofW HT_.out HW_.out (by kernel_rfl)) (fun _ _ _ h => h) (Or.inl ⟨by rfl, ?_⟩) hHeld ?_ ?_
     rotate_left; (· rintro w' ⟨s0, s1, s2⟩; go_simp; with_reducible rfl); rotate_left; (· simp only [Act.put, q2af_1, q2af_2, q2af_3, i64_w, i32_w]; rfl)
     refine one_ (i := 1) (N := some 13) #[true,true,false,true,false,false,false,false] rfl rfl (one_of HT_.out (by kernel_rfl)) (by decide) (fun K hK => ?_)
     refine goes_ Try.func130 (by kernel_rfl) rfl #[.agg #[.slice A0_0 l0_0.length c0_0, .slice A0_1 l0_1.length c0_1, .slice A0_2 l0_2.length c0_2]] (by rfl) rfl rfl (by (try simp only [List.map_toArray, List.map_cons, List.map_nil]); first | done | rfl | (simp only [List.length_drop, List.length_take]; rfl)) ?_
     with_reducible refine (impl_Jobs_many.calls _ _ l0_0 _ _ l0_1 _ _ l0_2 t102 _ ?side1 ?side2 ?side3 ?side4 ?side5 ?side6 A2.out).mono ?_
     (case side1 => repeat (first | exact (Kd.C_below HR0_0.out HB.out) | (with_reducible refine Kd.C_alloc ?_ _) | (with_reducible refine Kd.C_drewN ?_ _) | (with_reducible refine Kd.C_drew ?_)))
     (case side2 => exact HC0_0.out)
     (case side3 => repeat (first | exact (Kd.C_below HR0_1.out HB.out) | (with_reducible refine Kd.C_alloc ?_ _) | (with_reducible refine Kd.C_drewN ?_ _) | (with_reducible refine Kd.C_drew ?_)))
     (case side4 => exact HC0_1.out)
     (case side5 => repeat (first | exact (Kd.C_below HR0_2.out HB.out) | (with_reducible refine Kd.C_alloc ?_ _) | (with_reducible refine Kd.C_drewN ?_ _) | (with_reducible refine Kd.C_drew ?_)))
     (case side6 => exact HC0_2.out)
     rintro e w10 ⟨rfl, hb⟩
     refine ⟨_, rfl, ?_⟩
     have n0_ := Aside0.mk (blk_below (g := gb101) (o := .cells #[.slice A0_0 l0_0.length c0_0, .slice A0_1 l0_1.length c0_1, .slice A0_2 l0_2.length c0_2] 32 (0, 0)) (by (with_reducible repeat (first | refine blk_drewN ?_ _ | refine blk_drew ?_ | refine blk_alloc ?_ _)); exact BK101.out) hb)
     have n1_ := Aside0.mk (below_step (by repeat (first | (with_reducible first | exact HB.out | apply below_alloc | apply pw_below_drewN | apply below_drew1 | refine below_set ?_ GE101.out) | exact HB.out)) hb)
     clear BK101
     clear HB
     have BK101 := n0_
     have HB := n1_
     clear n0_ n1_
     (try clear hb)
     (try clear hb2)
     (try clear hk)
     (try clear hi)
     refine hK.out _ _ ⟨(blk_cell BK101.out 0).trans rfl, (blk_cell BK101.out 1).trans rfl, (blk_cell BK101.out 2).trans rfl⟩ (fun hHeld => ?_)
     clear hK K
     refine norm_ (a' := ?_) ?_ ?_
     rotate_left
     ·
      show Act.put _ (some 13) _ = _
      simp only [Act.put, q2af_1, q2af_2, q2af_3, i64_w, i32_w]
      rfl
     refine join_ (σ := Value × Value) 1 #[true,true,true,true,true,true,true,false] (fun s_ => [(14, s_.1), (16, .int .i64 t106), (17, s_.2), (4, s_.1)]) (fun s_ w' => (w'.cell? ⟨gb101, 0, none⟩ = some (.slice A0_0 l0_0.length c0_0) ∧ w'.cell? ⟨gb101, 1, none⟩ = some (.slice A0_1 l0_1.length c0_1) ∧ w'.cell? ⟨gb101, 2, none⟩ = some (.slice A0_2 l0_2.length c0_2)) ∧ (Kd.R (Kd.int .i64) 2 w' w.heap.size (fun k_ => some k_ ≠ (s_.2 : Value).ownBlock) s_.1 y103) ∧ (Kd.R (Kd.int .i64) 2 w' w.heap.size (fun k_ => some k_ ≠ (s_.1 : Value).ownBlock) s_.2 y107) ∧ (w'.heap[gb101]? = some (.cells #[.slice A0_0 l0_0.length c0_0, .slice A0_1 l0_1.length c0_1, .slice A0_2 l0_2.length c0_2] 32 (0, 0))) ∧ (Below w.heap.size w w')) ?_ ?_
     rotate_left
     ·
      intro hCont
      refine two_ (i := 2) (j := 4) (Ni := some 14) (Nj := some 16) #[true,true,true,true,false,false,false,false] #[true,true,false,true,true,false,false,false] rfl rfl rfl rfl (two_of HT_.out (by kernel_rfl)) (by decide) (by decide) (fun K hK => ?_) (fun K hK => ?_)
      ·
       skip
       refine Kd.R_make_step (Kd.int .i64) _ 2 (by rfl) (N := 14) rfl 22 _ _ rfl t102 rfl rfl Try.underlying22 (.int .i64 0) 8 info2 rfl (by decide) (by omega) 0 (ok := fun _ => True) (okp := fun _ => True) rfl (fun _ hk => hk) trivial (of_decide_eq_true (by assumption)) (Nat.le_trans (Nat.mul_le_mul_right _ (of_decide_eq_true (by assumption) : t102.toNat ≤ 35184372088832)) (by omega)) (Below.refl _ _) (Nat.le_refl _) ?_
       intro v104 w11 ho12 hb hg_ hnew_
       clear hg_ hnew_
       (first | rw [← Ny103.out] at ho12 | (simp only [Int.reduceToNat] at ho12; rw [← Ny103.out] at ho12))
       have n0_ := Aside0.mk (Kd.R_lower ho12 (below_size (by repeat (first | (with_reducible first | exact HB.out | apply below_alloc | apply pw_below_drewN | apply below_drew1 | refine below_set ?_ GE101.out) | exact HB.out))))
       have n1_ := Aside0.mk (blk_below (g := gb101) (o := .cells #[.slice A0_0 l0_0.length c0_0, .slice A0_1 l0_1.length c0_1, .slice A0_2 l0_2.length c0_2] 32 (0, 0)) (by (with_reducible repeat (first | refine blk_drewN ?_ _ | refine blk_drew ?_ | refine blk_alloc ?_ _)); exact BK101.out) hb)
       have n2_ := Aside0.mk (below_step (by repeat (first | (with_reducible first | exact HB.out | apply below_alloc | apply pw_below_drewN | apply below_drew1 | refine below_set ?_ GE101.out) | exact HB.out)) hb)
       clear BK101
       clear HB
       have HO105 := n0_
       have BK101 := n1_
       have HB := n2_
       clear n0_ n1_ n2_
       clear hb ho12
       refine hK.out _ _ ⟨(blk_cell BK101.out 0).trans rfl, (blk_cell BK101.out 1).trans rfl, (blk_cell BK101.out 2).trans rfl⟩ (fun hHeld => ?_)
       clear hK K
       refine norm_ (a' := ?_) ?_ ?_
       rotate_left
       ·
        show Act.put _ (some 14) _ = _
        simp only [Act.put, q2af_1, q2af_2, q2af_3, i64_w, i32_w]
        rfl
       refine one_ (i := 4) (N := some 16) #[true,true,true,true,true,false,false,false] rfl rfl (one_of HT_.out (by kernel_rfl)) (by decide) (fun K hK => ?_)
       refine goes_ Try.func130 (by kernel_rfl) rfl #[.agg #[.slice A0_0 l0_0.length c0_0, .slice A0_1 l0_1.length c0_1, .slice A0_2 l0_2.length c0_2]] (by rfl) rfl rfl (by (try simp only [List.map_toArray, List.map_cons, List.map_nil]); first | done | rfl | (simp only [List.length_drop, List.length_take]; rfl)) ?_
       with_reducible refine (impl_Jobs_many.calls _ _ l0_0 _ _ l0_1 _ _ l0_2 t106 _ ?side1 ?side2 ?side3 ?side4 ?side5 ?side6 A5.out).mono ?_
       (case side1 => repeat (first | exact (Kd.C_below HR0_0.out HB.out) | (with_reducible refine Kd.C_alloc ?_ _) | (with_reducible refine Kd.C_drewN ?_ _) | (with_reducible refine Kd.C_drew ?_)))
       (case side2 => exact HC0_0.out)
       (case side3 => repeat (first | exact (Kd.C_below HR0_1.out HB.out) | (with_reducible refine Kd.C_alloc ?_ _) | (with_reducible refine Kd.C_drewN ?_ _) | (with_reducible refine Kd.C_drew ?_)))
       (case side4 => exact HC0_1.out)
       (case side5 => repeat (first | exact (Kd.C_below HR0_2.out HB.out) | (with_reducible refine Kd.C_alloc ?_ _) | (with_reducible refine Kd.C_drewN ?_ _) | (with_reducible refine Kd.C_drew ?_)))
       (case side6 => exact HC0_2.out)
       rintro e w13 ⟨rfl, hb⟩
       refine ⟨_, rfl, ?_⟩
       have n0_ := Aside0.mk (Kd.R_below (by exact HO105.out) hb)
       have n1_ := Aside0.mk (blk_below (g := gb101) (o := .cells #[.slice A0_0 l0_0.length c0_0, .slice A0_1 l0_1.length c0_1, .slice A0_2 l0_2.length c0_2] 32 (0, 0)) (by (with_reducible repeat (first | refine blk_drewN ?_ _ | refine blk_drew ?_ | refine blk_alloc ?_ _)); exact BK101.out) hb)
       have n2_ := Aside0.mk (below_step (by repeat (first | (with_reducible first | exact HB.out | apply below_alloc | apply pw_below_drewN | apply below_drew1 | refine below_set ?_ GE101.out) | exact HB.out)) hb)
       clear HO105
       clear BK101
       clear HB
       have HO105 := n0_
       have BK101 := n1_
       have HB := n2_
       clear n0_ n1_ n2_
       (try clear hb)
       (try clear hb2)
       (try clear hk)
       (try clear hi)
       refine hK.out _ _ ⟨(blk_cell BK101.out 0).trans rfl, (blk_cell BK101.out 1).trans rfl, (blk_cell BK101.out 2).trans rfl⟩ (fun hHeld => ?_)
       clear hK K
       refine norm_ (a' := ?_) ?_ ?_
       rotate_left
       ·
        show Act.put _ (some 16) _ = _
        simp only [Act.put, q2af_1, q2af_2, q2af_3, i64_w, i32_w]
        rfl
       refine pure_ (i := 6) (N := some 4) (v := ?_) (a' := ?_) #[true,true,true,true,true,false,true,false] rfl rfl (any_of HT_.out (by kernel_rfl)) (fun _ _ _ h => h) (Or.inl ⟨by rfl, ?_⟩) ?_ ?_
       rotate_left; (· intro w'; go_simp; with_reducible rfl); rotate_left; (· simp only [Act.put, q2af_1, q2af_2, q2af_3, i64_w, i32_w]; rfl)
       refine one_ (i := 5) (N := some 17) #[true,true,true,true,true,true,true,false] rfl rfl (one_of HT_.out (by kernel_rfl)) (by decide) (fun K hK => ?_)
       refine Kd.R_make_step (Kd.int .i64) _ 2 (by rfl) (N := 17) rfl 22 _ _ rfl t106 rfl rfl Try.underlying22 (.int .i64 0) 8 info2 rfl (by decide) (by omega) 0 (ok := fun _ => True) (okp := fun _ => True) rfl (fun _ hk => hk) trivial (of_decide_eq_true (by assumption)) (Nat.le_trans (Nat.mul_le_mul_right _ (of_decide_eq_true (by assumption) : t106.toNat ≤ 35184372088832)) (by omega)) (Below.refl _ _) (Nat.le_refl _) ?_
       intro v108 w14 ho15 hb hg_ hnew_
       clear hg_ hnew_
       (first | rw [← Ny107.out] at ho15 | (simp only [Int.reduceToNat] at ho15; rw [← Ny107.out] at ho15))
       have n0_ := Aside0.mk (Kd.R_elder' (by exact HO105.out) (Kd.R_base ho15) hb)
       have n1_ := Aside0.mk (Kd.R_lower (Kd.R_new' ho15 (Kd.R_lt (by exact HO105.out))) (below_size (by repeat (first | (with_reducible first | exact HB.out | apply below_alloc | apply pw_below_drewN | apply below_drew1 | refine below_set ?_ GE101.out) | exact HB.out))))
       have n2_ := Aside0.mk (blk_below (g := gb101) (o := .cells #[.slice A0_0 l0_0.length c0_0, .slice A0_1 l0_1.length c0_1, .slice A0_2 l0_2.length c0_2] 32 (0, 0)) (by (with_reducible repeat (first | refine blk_drewN ?_ _ | refine blk_drew ?_ | refine blk_alloc ?_ _)); exact BK101.out) hb)
       have n3_ := Aside0.mk (below_step (by repeat (first | (with_reducible first | exact HB.out | apply below_alloc | apply pw_below_drewN | apply below_drew1 | refine below_set ?_ GE101.out) | exact HB.out)) hb)
       clear HO105
       clear BK101
       clear HB
       have HO105 := n0_
       have HO109 := n1_
       have BK101 := n2_
       have HB := n3_
       clear n0_ n1_ n2_ n3_
       clear hb ho15
       refine hK.out _ _ ⟨(blk_cell BK101.out 0).trans rfl, (blk_cell BK101.out 1).trans rfl, (blk_cell BK101.out 2).trans rfl⟩ (fun hHeld => ?_)
       clear hK K
       refine norm_ (a' := ?_) ?_ ?_
       rotate_left
       ·
        show Act.put _ (some 17) _ = _
        simp only [Act.put, q2af_1, q2af_2, q2af_3, i64_w, i32_w]
        rfl
       exact norm_ (by simp only [putAll, Act.put, q2af_1, q2af_2, q2af_3]) (hCont (v104, v108) _ ⟨hHeld, (by exact Kd.R_mono HO105.out (fun _ hk => hk.2)), (by exact Kd.R_mono HO109.out (fun _ hk => hk.2)), (by (with_reducible repeat (first | refine blk_drewN ?_ _ | refine blk_drew ?_ | refine blk_alloc ?_ _)); exact BK101.out), (by repeat (first | (with_reducible first | exact HB.out | apply below_alloc | apply pw_below_drewN | apply below_drew1 | refine below_set ?_ GE101.out) | exact HB.out))⟩)
      ·
       skip
       refine goes_ Try.func130 (by kernel_rfl) rfl #[.agg #[.slice A0_0 l0_0.length c0_0, .slice A0_1 l0_1.length c0_1, .slice A0_2 l0_2.length c0_2]] (by rfl) rfl rfl (by (try simp only [List.map_toArray, List.map_cons, List.map_nil]); first | done | rfl | (simp only [List.length_drop, List.length_take]; rfl)) ?_
       with_reducible refine (impl_Jobs_many.calls _ _ l0_0 _ _ l0_1 _ _ l0_2 t106 _ ?side1 ?side2 ?side3 ?side4 ?side5 ?side6 A5.out).mono ?_
       (case side1 => repeat (first | exact (Kd.C_below HR0_0.out HB.out) | (with_reducible refine Kd.C_alloc ?_ _) | (with_reducible refine Kd.C_drewN ?_ _) | (with_reducible refine Kd.C_drew ?_)))
       (case side2 => exact HC0_0.out)
       (case side3 => repeat (first | exact (Kd.C_below HR0_1.out HB.out) | (with_reducible refine Kd.C_alloc ?_ _) | (with_reducible refine Kd.C_drewN ?_ _) | (with_reducible refine Kd.C_drew ?_)))
       (case side4 => exact HC0_1.out)
       (case side5 => repeat (first | exact (Kd.C_below HR0_2.out HB.out) | (with_reducible refine Kd.C_alloc ?_ _) | (with_reducible refine Kd.C_drewN ?_ _) | (with_reducible refine Kd.C_drew ?_)))
       (case side6 => exact HC0_2.out)
       rintro e w11 ⟨rfl, hb⟩
       refine ⟨_, rfl, ?_⟩
       have n0_ := Aside0.mk (blk_below (g := gb101) (o := .cells #[.slice A0_0 l0_0.length c0_0, .slice A0_1 l0_1.length c0_1, .slice A0_2 l0_2.length c0_2] 32 (0, 0)) (by (with_reducible repeat (first | refine blk_drewN ?_ _ | refine blk_drew ?_ | refine blk_alloc ?_ _)); exact BK101.out) hb)
       have n1_ := Aside0.mk (below_step (by repeat (first | (with_reducible first | exact HB.out | apply below_alloc | apply pw_below_drewN | apply below_drew1 | refine below_set ?_ GE101.out) | exact HB.out)) hb)
       clear BK101
       clear HB
       have BK101 := n0_
       have HB := n1_
       clear n0_ n1_
       (try clear hb)
       (try clear hb2)
       (try clear hk)
       (try clear hi)
       refine hK.out _ _ ⟨(blk_cell BK101.out 0).trans rfl, (blk_cell BK101.out 1).trans rfl, (blk_cell BK101.out 2).trans rfl⟩ (fun hHeld => ?_)
       clear hK K
       refine norm_ (a' := ?_) ?_ ?_
       rotate_left
       ·
        show Act.put _ (some 16) _ = _
        simp only [Act.put, q2af_1, q2af_2, q2af_3, i64_w, i32_w]
        rfl
       refine two_ (i := 2) (j := 5) (Ni := some 14) (Nj := some 17) #[true,true,true,true,true,false,false,false] #[true,true,false,true,true,true,false,false] rfl rfl rfl rfl (two_of HT_.out (by kernel_rfl)) (by decide) (by decide) (fun K hK => ?_) (fun K hK => ?_)
       ·
        skip
        refine Kd.R_make_step (Kd.int .i64) _ 2 (by rfl) (N := 14) rfl 22 _ _ rfl t102 rfl rfl Try.underlying22 (.int .i64 0) 8 info2 rfl (by decide) (by omega) 0 (ok := fun _ => True) (okp := fun _ => True) rfl (fun _ hk => hk) trivial (of_decide_eq_true (by assumption)) (Nat.le_trans (Nat.mul_le_mul_right _ (of_decide_eq_true (by assumption) : t102.toNat ≤ 35184372088832)) (by omega)) (Below.refl _ _) (Nat.le_refl _) ?_
        intro v104 w12 ho13 hb hg_ hnew_
        clear hg_ hnew_
        (first | rw [← Ny103.out] at ho13 | (simp only [Int.reduceToNat] at ho13; rw [← Ny103.out] at ho13))
        have n0_ := Aside0.mk (Kd.R_lower ho13 (below_size (by repeat (first | (with_reducible first | exact HB.out | apply below_alloc | apply pw_below_drewN | apply below_drew1 | refine below_set ?_ GE101.out) | exact HB.out))))
        have n1_ := Aside0.mk (blk_below (g := gb101) (o := .cells #[.slice A0_0 l0_0.length c0_0, .slice A0_1 l0_1.length c0_1, .slice A0_2 l0_2.length c0_2] 32 (0, 0)) (by (with_reducible repeat (first | refine blk_drewN ?_ _ | refine blk_drew ?_ | refine blk_alloc ?_ _)); exact BK101.out) hb)
        have n2_ := Aside0.mk (below_step (by repeat (first | (with_reducible first | exact HB.out | apply below_alloc | apply pw_below_drewN | apply below_drew1 | refine below_set ?_ GE101.out) | exact HB.out)) hb)
        clear BK101
        clear HB
        have HO105 := n0_
        have BK101 := n1_
        have HB := n2_
        clear n0_ n1_ n2_
        clear hb ho13
        refine hK.out _ _ ⟨(blk_cell BK101.out 0).trans rfl, (blk_cell BK101.out 1).trans rfl, (blk_cell BK101.out 2).trans rfl⟩ (fun hHeld => ?_)
        clear hK K
        refine norm_ (a' := ?_) ?_ ?_
        rotate_left
        ·
         show Act.put _ (some 14) _ = _
         simp only [Act.put, q2af_1, q2af_2, q2af_3, i64_w, i32_w]
         rfl
        refine pure_ (i := 6) (N := some 4) (v := ?_) (a' := ?_) #[true,true,true,true,true,false,true,false] rfl rfl (any_of HT_.out (by kernel_rfl)) (fun _ _ _ h => h) (Or.inl ⟨by rfl, ?_⟩) ?_ ?_
        rotate_left; (· intro w'; go_simp; with_reducible rfl); rotate_left; (· simp only [Act.put, q2af_1, q2af_2, q2af_3, i64_w, i32_w]; rfl)
        refine one_ (i := 5) (N := some 17) #[true,true,true,true,true,true,true,false] rfl rfl (one_of HT_.out (by kernel_rfl)) (by decide) (fun K hK => ?_)
        refine Kd.R_make_step (Kd.int .i64) _ 2 (by rfl) (N := 17) rfl 22 _ _ rfl t106 rfl rfl Try.underlying22 (.int .i64 0) 8 info2 rfl (by decide) (by omega) 0 (ok := fun _ => True) (okp := fun _ => True) rfl (fun _ hk => hk) trivial (of_decide_eq_true (by assumption)) (Nat.le_trans (Nat.mul_le_mul_right _ (of_decide_eq_true (by assumption) : t106.toNat ≤ 35184372088832)) (by omega)) (Below.refl _ _) (Nat.le_refl _) ?_
        intro v108 w14 ho15 hb hg_ hnew_
        clear hg_ hnew_
        (first | rw [← Ny107.out] at ho15 | (simp only [Int.reduceToNat] at ho15; rw [← Ny107.out] at ho15))
        have n0_ := Aside0.mk (Kd.R_elder' (by exact HO105.out) (Kd.R_base ho15) hb)
        have n1_ := Aside0.mk (Kd.R_lower (Kd.R_new' ho15 (Kd.R_lt (by exact HO105.out))) (below_size (by repeat (first | (with_reducible first | exact HB.out | apply below_alloc | apply pw_below_drewN | apply below_drew1 | refine below_set ?_ GE101.out) | exact HB.out))))
        have n2_ := Aside0.mk (blk_below (g := gb101) (o := .cells #[.slice A0_0 l0_0.length c0_0, .slice A0_1 l0_1.length c0_1, .slice A0_2 l0_2.length c0_2] 32 (0, 0)) (by (with_reducible repeat (first | refine blk_drewN ?_ _ | refine blk_drew ?_ | refine blk_alloc ?_ _)); exact BK101.out) hb)
        have n3_ := Aside0.mk (below_step (by repeat (first | (with_reducible first | exact HB.out | apply below_alloc | apply pw_below_drewN | apply below_drew1 | refine below_set ?_ GE101.out) | exact HB.out)) hb)
        clear HO105
        clear BK101
        clear HB
        have HO105 := n0_
        have HO109 := n1_
        have BK101 := n2_
        have HB := n3_
        clear n0_ n1_ n2_ n3_
        clear hb ho15
        refine hK.out _ _ ⟨(blk_cell BK101.out 0).trans rfl, (blk_cell BK101.out 1).trans rfl, (blk_cell BK101.out 2).trans rfl⟩ (fun hHeld => ?_)
        clear hK K
        refine norm_ (a' := ?_) ?_ ?_
        rotate_left
        ·
         show Act.put _ (some 17) _ = _
         simp only [Act.put, q2af_1, q2af_2, q2af_3, i64_w, i32_w]
         rfl
        exact norm_ (by simp only [putAll, Act.put, q2af_1, q2af_2, q2af_3]) (hCont (v104, v108) _ ⟨hHeld, (by exact Kd.R_mono HO105.out (fun _ hk => hk.2)), (by exact Kd.R_mono HO109.out (fun _ hk => hk.2)), (by (with_reducible repeat (first | refine blk_drewN ?_ _ | refine blk_drew ?_ | refine blk_alloc ?_ _)); exact BK101.out), (by repeat (first | (with_reducible first | exact HB.out | apply below_alloc | apply pw_below_drewN | apply below_drew1 | refine below_set ?_ GE101.out) | exact HB.out))⟩)
       ·
        skip
        refine Kd.R_make_step (Kd.int .i64) _ 2 (by rfl) (N := 17) rfl 22 _ _ rfl t106 rfl rfl Try.underlying22 (.int .i64 0) 8 info2 rfl (by decide) (by omega) 0 (ok := fun _ => True) (okp := fun _ => True) rfl (fun _ hk => hk) trivial (of_decide_eq_true (by assumption)) (Nat.le_trans (Nat.mul_le_mul_right _ (of_decide_eq_true (by assumption) : t106.toNat ≤ 35184372088832)) (by omega)) (Below.refl _ _) (Nat.le_refl _) ?_
        intro v108 w12 ho13 hb hg_ hnew_
        clear hg_ hnew_
        (first | rw [← Ny107.out] at ho13 | (simp only [Int.reduceToNat] at ho13; rw [← Ny107.out] at ho13))
        have n0_ := Aside0.mk (Kd.R_lower ho13 (below_size (by repeat (first | (with_reducible first | exact HB.out | apply below_alloc | apply pw_below_drewN | apply below_drew1 | refine below_set ?_ GE101.out) | exact HB.out))))
        have n1_ := Aside0.mk (blk_below (g := gb101) (o := .cells #[.slice A0_0 l0_0.length c0_0, .slice A0_1 l0_1.length c0_1, .slice A0_2 l0_2.length c0_2] 32 (0, 0)) (by (with_reducible repeat (first | refine blk_drewN ?_ _ | refine blk_drew ?_ | refine blk_alloc ?_ _)); exact BK101.out) hb)
        have n2_ := Aside0.mk (below_step (by repeat (first | (with_reducible first | exact HB.out | apply below_alloc | apply pw_below_drewN | apply below_drew1 | refine below_set ?_ GE101.out) | exact HB.out)) hb)
        clear BK101
        clear HB
        have HO109 := n0_
        have BK101 := n1_
        have HB := n2_
        clear n0_ n1_ n2_
        clear hb ho13
        refine hK.out _ _ ⟨(blk_cell BK101.out 0).trans rfl, (blk_cell BK101.out 1).trans rfl, (blk_cell BK101.out 2).trans rfl⟩ (fun hHeld => ?_)
        clear hK K
        refine norm_ (a' := ?_) ?_ ?_
        rotate_left
        ·
         show Act.put _ (some 17) _ = _
         simp only [Act.put, q2af_1, q2af_2, q2af_3, i64_w, i32_w]
         rfl
        refine one_ (i := 2) (N := some 14) #[true,true,true,true,true,true,false,false] rfl rfl (one_of HT_.out (by kernel_rfl)) (by decide) (fun K hK => ?_)
        refine Kd.R_make_step (Kd.int .i64) _ 2 (by rfl) (N := 14) rfl 22 _ _ rfl t102 rfl rfl Try.underlying22 (.int .i64 0) 8 info2 rfl (by decide) (by omega) 0 (ok := fun _ => True) (okp := fun _ => True) rfl (fun _ hk => hk) trivial (of_decide_eq_true (by assumption)) (Nat.le_trans (Nat.mul_le_mul_right _ (of_decide_eq_true (by assumption) : t102.toNat ≤ 35184372088832)) (by omega)) (Below.refl _ _) (Nat.le_refl _) ?_
        intro v104 w14 ho15 hb hg_ hnew_
        clear hg_ hnew_
        (first | rw [← Ny103.out] at ho15 | (simp only [Int.reduceToNat] at ho15; rw [← Ny103.out] at ho15))
        have n0_ := Aside0.mk (Kd.R_elder' (by exact HO109.out) (Kd.R_base ho15) hb)
        have n1_ := Aside0.mk (Kd.R_lower (Kd.R_new' ho15 (Kd.R_lt (by exact HO109.out))) (below_size (by repeat (first | (with_reducible first | exact HB.out | apply below_alloc | apply pw_below_drewN | apply below_drew1 | refine below_set ?_ GE101.out) | exact HB.out))))
        have n2_ := Aside0.mk (blk_below (g := gb101) (o := .cells #[.slice A0_0 l0_0.length c0_0, .slice A0_1 l0_1.length c0_1, .slice A0_2 l0_2.length c0_2] 32 (0, 0)) (by (with_reducible repeat (first | refine blk_drewN ?_ _ | refine blk_drew ?_ | refine blk_alloc ?_ _)); exact BK101.out) hb)
        have n3_ := Aside0.mk (below_step (by repeat (first | (with_reducible first | exact HB.out | apply below_alloc | apply pw_below_drewN | apply below_drew1 | refine below_set ?_ GE101.out) | exact HB.out)) hb)
        clear HO109
        clear BK101
        clear HB
        have HO109 := n0_
        have HO105 := n1_
        have BK101 := n2_
        have HB := n3_
        clear n0_ n1_ n2_ n3_
        clear hb ho15
        refine hK.out _ _ ⟨(blk_cell BK101.out 0).trans rfl, (blk_cell BK101.out 1).trans rfl, (blk_cell BK101.out 2).trans rfl⟩ (fun hHeld => ?_)
        clear hK K
        refine norm_ (a' := ?_) ?_ ?_
        rotate_left
        ·
         show Act.put _ (some 14) _ = _
         simp only [Act.put, q2af_1, q2af_2, q2af_3, i64_w, i32_w]
         rfl
        refine pure_ (i := 6) (N := some 4) (v := ?_) (a' := ?_) #[true,true,true,true,true,true,true,false] rfl rfl (any_of HT_.out (by kernel_rfl)) (fun _ _ _ h => h) (Or.inl ⟨by rfl, ?_⟩) ?_ ?_
        rotate_left; (· intro w'; go_simp; with_reducible rfl); rotate_left; (· simp only [Act.put, q2af_1, q2af_2, q2af_3, i64_w, i32_w]; rfl)
        exact norm_ (by simp only [putAll, Act.put, q2af_1, q2af_2, q2af_3]) (hCont (v104, v108) _ ⟨hHeld, (by exact Kd.R_mono HO105.out (fun _ hk => hk.2)), (by exact Kd.R_mono HO109.out (fun _ hk => hk.2)), (by (with_reducible repeat (first | refine blk_drewN ?_ _ | refine blk_drew ?_ | refine blk_alloc ?_ _)); exact BK101.out), (by repeat (first | (with_reducible first | exact HB.out | apply below_alloc | apply pw_below_drewN | apply below_drew1 | refine below_set ?_ GE101.out) | exact HB.out))⟩)
     rintro ⟨v104, v108⟩ w16 ⟨hS_, h0_, h1_, h2_, h3_⟩
     have n0_ : Aside0 (Kd.R (Kd.int .i64) 2 w16 w.heap.size (fun k_ => some k_ ≠ (v108 : Value).ownBlock) v104 y103) := ⟨h0_⟩
     have n1_ : Aside0 (Kd.R (Kd.int .i64) 2 w16 w.heap.size (fun k_ => some k_ ≠ (v104 : Value).ownBlock) v108 y107) := ⟨h1_⟩
     have n2_ : Aside0 (w16.heap[gb101]? = some (.cells #[.slice A0_0 l0_0.length c0_0, .slice A0_1 l0_1.length c0_1, .slice A0_2 l0_2.length c0_2] 32 (0, 0))) := ⟨h2_⟩
     have n3_ : Aside0 (Below w.heap.size w w16) := ⟨h3_⟩
     clear BK101
     clear HB
     clear h0_ h1_ h2_ h3_
     have HO105 := n0_
     have HO109 := n1_
     have BK101 := n2_
     have HB := n3_
     clear n0_ n1_ n2_ n3_
     have hHeld : w16.cell? ⟨gb101, 0, none⟩ = some (.slice A0_0 l0_0.length c0_0) ∧ w16.cell? ⟨gb101, 1, none⟩ = some (.slice A0_1 l0_1.length c0_1) ∧ w16.cell? ⟨gb101, 2, none⟩ = some (.slice A0_2 l0_2.length c0_2) := hS_
     refine norm_ (a' := ?_) ?_ ?_
     rotate_left
     ·
      simp only [putAll, Act.put, q2af_1, q2af_2, q2af_3]
      rfl
     refine pure_ (i := 7) (N := some 5) (v := ?_) (a' := ?_) #[true,true,true,true,true,true,true,true] rfl rfl (any_of HT_.out (by kernel_rfl)) (fun _ _ _ h => h) (Or.inl ⟨by rfl, ?_⟩) ?_ ?_
     rotate_left; (· intro w'; go_simp; with_reducible rfl); rotate_left; (· simp only [Act.put, q2af_1, q2af_2, q2af_3, i64_w, i32_w]; rfl)
     refine done_ (done_of HT_.out (by kernel_rfl)) ?_
     try go_wp2
     go_loopg [6, 7] k (fun kq v6 v7 w' => ∃ (x4_1 : List Int) (x5_1 : List Int) (x6_1 : List Int) (x7_1 : Int), v7 = .int .i64 x7_1 ∧ Aside0 (impl_Jobs_earliest.l0 kq x4_1 x5_1 x6_1 x7_1 l0_0 l0_1 l0_2 = some (r1, r2)) ∧ Aside0 (kq ≤ k) ∧ Aside0 (Kd.R (Kd.int .i64) 2 w' w.heap.size (fun k_ => some k_ ≠ (v108 : Value).ownBlock ∧ some k_ ≠ (v6 : Value).ownBlock) v104 x4_1) ∧ Aside0 (Kd.R (Kd.int .i64) 2 w' w.heap.size (fun k_ => some k_ ≠ (v104 : Value).ownBlock ∧ some k_ ≠ (v6 : Value).ownBlock) v108 x5_1) ∧ Aside0 (Kd.R (Kd.int .i64) 2 w' w.heap.size (fun k_ => some k_ ≠ (v104 : Value).ownBlock ∧ some k_ ≠ (v108 : Value).ownBlock) v6 x6_1) ∧ Aside0 (w'.heap[gb101]? = some (.cells #[(.slice A0_0 l0_0.length c0_0), (.slice A0_1 l0_1.length c0_1), (.slice A0_2 l0_2.length c0_2)] 32 (0, 0))) ∧ Aside0 (Below w.heap.size w w'))
     case atStart => exact ⟨(y103), (y107), (([] : List Int)), (0), (by first | rfl | simp), H', ⟨Nat.le_refl _⟩, ⟨by exact Kd.R_mono HO105.out (fun _ hk => ⟨hk, (by simp [Value.ownBlock])⟩)⟩, ⟨by exact Kd.R_mono HO109.out (fun _ hk => ⟨hk, (by simp [Value.ownBlock])⟩)⟩, ⟨by first | exact Kd.R_nil _ _ _ _ _ | exact Kd.N_nil _ _ _ _ _ | exact Kd.V_nil _ _ _ _ _ | exact Kd.Q_nil _ _ _ _ _ | exact Kd.S_nil _ _ _ _ _⟩, ⟨by (with_reducible repeat (first | refine blk_drewN ?_ _ | refine blk_drew ?_ | refine blk_alloc ?_ _)); exact BK101.out⟩, ⟨by repeat (first | (with_reducible first | exact HB.out | apply below_alloc | apply pw_below_drewN | apply below_drew1 | refine below_set ?_ GE101.out) | exact HB.out)⟩⟩
     case round =>
      clear H'
      try clear c1
      try clear p2
      try clear c3
      try clear c3b0
      try clear c3b1
      try clear c4
      try clear c4b0
      try clear c4b1
      try clear c6
      try clear c6b0
      try clear c6b1
      try clear c7
      try clear c7b0
      try clear c7b1
      try clear c13
      obtain ⟨x4_1, x5_1, x6_1, x7_1, rfl, HA, HK1, HO_4, HO_5, HO_6, BK101, HB⟩ := hrel
      cases gk with
      | zero => exact absurd HA.out (by simp [impl_Jobs_earliest.l0])
      | succ k1 =>
       have H := HA.out
       clear HA
       simp only [impl_Jobs_earliest.l0] at H
       have H' := Aside0.mk H
       clear H
       obtain ⟨Ao17, co17, eo17⟩ := Kd.R_slice HO_4.out
       subst eo17
       go_wp2
       go_loopg [22] k1 (fun kq v22 w' => ∃ (x22_2 : Int), v22 = .int .i64 x22_2 ∧ Aside0 (impl_Jobs_earliest.l1 kq x4_1 x5_1 x6_1 x7_1 (x4_1.length : Int) x22_2 l0_0 l0_1 l0_2 = some (r1, r2)) ∧ Aside0 (kq ≤ k1) ∧ Aside0 (Kd.R (Kd.int .i64) 2 w' w.heap.size (fun k_ => some k_ ≠ (v108 : Value).ownBlock ∧ some k_ ≠ (u6 : Value).ownBlock) (.slice Ao17 x4_1.length co17) x4_1) ∧ Aside0 (Kd.R (Kd.int .i64) 2 w' w.heap.size (fun k_ => some k_ ≠ ((.slice Ao17 x4_1.length co17) : Value).ownBlock ∧ some k_ ≠ (u6 : Value).ownBlock) v108 x5_1) ∧ Aside0 (Kd.R (Kd.int .i64) 2 w' w.heap.size (fun k_ => some k_ ≠ ((.slice Ao17 x4_1.length co17) : Value).ownBlock ∧ some k_ ≠ (v108 : Value).ownBlock) u6 x6_1) ∧ Aside0 (w'.heap[gb101]? = some (.cells #[(.slice A0_0 l0_0.length c0_0), (.slice A0_1 l0_1.length c0_1), (.slice A0_2 l0_2.length c0_2)] 32 (0, 0))) ∧ Aside0 (Below w.heap.size w w'))
       case atStart => exact ⟨(0), (by first | rfl | simp), H', ⟨Nat.le_refl _⟩, ⟨by exact HO_4.out⟩, ⟨by exact HO_5.out⟩, ⟨by exact HO_6.out⟩, ⟨by (with_reducible repeat (first | refine blk_drewN ?_ _ | refine blk_drew ?_ | refine blk_alloc ?_ _)); exact BK101.out⟩, ⟨by repeat (first | (with_reducible first | exact HB.out | apply below_alloc | apply pw_below_drewN | apply below_drew1 | refine below_set ?_ GE101.out) | exact HB.out)⟩⟩
       case round =>
        clear H'
        try clear c1
        try clear p2
        try clear c3
        try clear c3b0
        try clear c3b1
        try clear c4
        try clear c4b0
        try clear c4b1
        try clear c6
        try clear c6b0
        try clear c6b1
        try clear c7
        try clear c7b0
        try clear c7b1
        try clear c13
        try clear p2
        obtain ⟨x22_2, rfl, HA, HK2, HO_4, HO_5, HO_6, BK101, HB⟩ := hrel
        cases gk with
        | zero => exact absurd HA.out (by simp [impl_Jobs_earliest.l1])
        | succ k2 =>
         have H := HA.out
         clear HA
         simp only [impl_Jobs_earliest.l1] at H
         by_cases c18 : x22_2 < (x4_1.length : Int)
         ·
          rw [if_pos c18] at H
          have c18b0 : decide (x22_2 < (x4_1.length : Int)) = true := decide_eq_true c18
          clear c18
          by_cases c19 : 0 ≤ x22_2
          ·
           rw [if_pos c19] at H
           have c19b0 : decide (0 ≤ x22_2) = true := decide_eq_true c19
           clear c19
           by_cases c20 : x22_2 < (x4_1.length : Int)
           ·
            rw [if_pos c20] at H
            have c20b0 : decide (x22_2 < (x4_1.length : Int)) = true := decide_eq_true c20
            clear c20
            by_cases c21 : (rd x4_1 x22_2) > 0
            ·
             rw [if_pos c21] at H
             have c21b0 : decide (0 < (rd x4_1 x22_2)) = true := decide_eq_true c21
             clear c21
             by_cases c22 : x22_2 < (x5_1.length : Int)
             ·
              rw [if_pos c22] at H
              have c22b0 : decide (x22_2 < (x5_1.length : Int)) = true := decide_eq_true c22
              clear c22
              by_cases c23 : (rd x5_1 x22_2) ≤ x7_1
              ·
               rw [if_pos c23] at H
               have c23b0 : decide ((rd x5_1 x22_2) ≤ x7_1) = true := decide_eq_true c23
               clear c23
               simp only [Option.some.injEq, Prod.mk.injEq] at H
               obtain ⟨rfl, rfl⟩ := H
               have p110 : 0 ≤ (x22_2 : Int) := of_decide_eq_true (by assumption)
               have q110 : x22_2 < (x4_1.length : Int) := of_decide_eq_true (by assumption)
               obtain ⟨ad110, e110, hx110_0⟩ := Kd.at_int (Kd.R_reads' HO_4.out).2.2 x22_2 p110 q110
               cases e110
               replace p110 := eq_true p110
               replace q110 := eq_true q110
               obtain ⟨Ao24, co24, eo24⟩ := Kd.R_slice HO_5.out
               subst eo24
               have p111 : 0 ≤ (x22_2 : Int) := of_decide_eq_true (by assumption)
               have q111 : x22_2 < (x5_1.length : Int) := of_decide_eq_true (by assumption)
               obtain ⟨ad111, e111, hx111_0⟩ := Kd.at_int (Kd.R_reads' HO_5.out).2.2 x22_2 p111 q111
               cases e111
               replace p111 := eq_true p111
               replace q111 := eq_true q111
               go_wp2
               go_ret2
               exact ⟨_, by first | rfl | (simp [errW_none, errW_some] <;> rfl) | (simp [*, errW_none, errW_some] <;> rfl), by exact Kd.R_mono HO_6.out (fun _ hk => trivial), by repeat (first | (with_reducible first | exact HB.out | apply below_alloc | apply pw_below_drewN | apply below_drew1 | refine below_set ?_ GE101.out) | exact HB.out)⟩
              ·
               rw [if_neg c23] at H
               have c23b0 : decide ((rd x5_1 x22_2) ≤ x7_1) = false := decide_eq_false c23
               clear c23
               have H' := Aside0.mk H
               clear H
               have p110 : 0 ≤ (x22_2 : Int) := of_decide_eq_true (by assumption)
               have q110 : x22_2 < (x4_1.length : Int) := of_decide_eq_true (by assumption)
               obtain ⟨ad110, e110, hx110_0⟩ := Kd.at_int (Kd.R_reads' HO_4.out).2.2 x22_2 p110 q110
               cases e110
               replace p110 := eq_true p110
               replace q110 := eq_true q110
               obtain ⟨Ao25, co25, eo25⟩ := Kd.R_slice HO_5.out
               subst eo25
               have p111 : 0 ≤ (x22_2 : Int) := of_decide_eq_true (by assumption)
               have q111 : x22_2 < (x5_1.length : Int) := of_decide_eq_true (by assumption)
               obtain ⟨ad111, e111, hx111_0⟩ := Kd.at_int (Kd.R_reads' HO_5.out).2.2 x22_2 p111 q111
               cases e111
               replace p111 := eq_true p111
               replace q111 := eq_true q111
               go_wp2
               go_roundg k2
               case measure => have := HK1.out; have := HK2.out; omega
               case rel => exact ⟨(wrap64 (x22_2 + 1)), (by first | rfl | simp), H', ⟨by have := HK1.out; have := HK2.out; omega⟩, ⟨by exact HO_4.out⟩, ⟨by exact HO_5.out⟩, ⟨by exact HO_6.out⟩, ⟨by (with_reducible repeat (first | refine blk_drewN ?_ _ | refine blk_drew ?_ | refine blk_alloc ?_ _)); exact BK101.out⟩, ⟨by repeat (first | (with_reducible first | exact HB.out | apply below_alloc | apply pw_below_drewN | apply below_drew1 | refine below_set ?_ GE101.out) | exact HB.out)⟩⟩
             ·
              rw [if_neg c22] at H
              exact absurd H (by simp)
            ·
             rw [if_neg c21] at H
             have c21b0 : decide (0 < (rd x4_1 x22_2)) = false := decide_eq_false c21
             clear c21
             have H' := Aside0.mk H
             clear H
             have p110 : 0 ≤ (x22_2 : Int) := of_decide_eq_true (by assumption)
             have q110 : x22_2 < (x4_1.length : Int) := of_decide_eq_true (by assumption)
             obtain ⟨ad110, e110, hx110_0⟩ := Kd.at_int (Kd.R_reads' HO_4.out).2.2 x22_2 p110 q110
             cases e110
             replace p110 := eq_true p110
             replace q110 := eq_true q110
             go_wp2
             go_roundg k2
             case measure => have := HK1.out; have := HK2.out; omega
             case rel => exact ⟨(wrap64 (x22_2 + 1)), (by first | rfl | simp), H', ⟨by have := HK1.out; have := HK2.out; omega⟩, ⟨by exact HO_4.out⟩, ⟨by exact HO_5.out⟩, ⟨by exact HO_6.out⟩, ⟨by (with_reducible repeat (first | refine blk_drewN ?_ _ | refine blk_drew ?_ | refine blk_alloc ?_ _)); exact BK101.out⟩, ⟨by repeat (first | (with_reducible first | exact HB.out | apply below_alloc | apply pw_below_drewN | apply below_drew1 | refine below_set ?_ GE101.out) | exact HB.out)⟩⟩
           ·
            rw [if_neg c20] at H
            exact absurd H (by simp)
          ·
           rw [if_neg c19] at H
           exact absurd H (by simp)
         ·
          rw [if_neg c18] at H
          have c18b0 : decide (x22_2 < (x4_1.length : Int)) = false := decide_eq_false c18
          clear c18
          replace H := Option.bind_eq_some_iff.mp H
          obtain ⟨t112, A260, H⟩ := H
          replace H : (if x7_1 = t112 then (some (x6_1, (-1))) else (impl_Jobs_earliest.l2 k2 x4_1 x5_1 x6_1 x7_1 (-1) l0_1 (l0_1.length : Int) 0 l0_0 l0_1 l0_2)) = some (r1, r2) := H
          have A26 := Aside0.mk A260
          clear A260
          by_cases c27 : x7_1 = t112
          ·
           rw [if_pos c27] at H
           have c27b0 : (x7_1 == t112) = true := beq_iff_eq.mpr c27
           have c27b1 : (x7_1 != t112) = false := bne_eq_false_iff_eq.mpr c27
           clear c27
           simp only [Option.some.injEq, Prod.mk.injEq] at H
           obtain ⟨rfl, rfl⟩ := H
           have hcz28_0 : wr.cell? ⟨gb101, 0, none⟩ = some (.slice A0_0 l0_0.length c0_0) := (blk_cell BK101.out 0).trans rfl
           have hcz28_1 : wr.cell? ⟨gb101, 1, none⟩ = some (.slice A0_1 l0_1.length c0_1) := (blk_cell BK101.out 1).trans rfl
           have hcz28_2 : wr.cell? ⟨gb101, 2, none⟩ = some (.slice A0_2 l0_2.length c0_2) := (blk_cell BK101.out 2).trans rfl
           have hfz28_0 := blk_frozen BK101.out 0
           have hfz28_1 := blk_frozen BK101.out 1
           have hfz28_2 := blk_frozen BK101.out 2
           go_wp2_with (first | ((with_reducible refine gate_callee (f := 127) rfl ?_); refine goesL_ (some 43) rfl rfl Try.func127 (by kernel_rfl) rfl #[.agg #[.slice A0_0 l0_0.length c0_0, .slice A0_1 l0_1.length c0_1, .slice A0_2 l0_2.length c0_2]] rfl (by (try simp only [List.map_toArray, List.map_cons, List.map_nil]); first | done | rfl | (simp only [List.length_drop, List.length_take]; rfl)) ?_; (with_reducible refine (impl_Jobs_whole.calls k2 _ _ l0_0 _ _ l0_1 _ _ l0_2 t112 _ ?side1 ?side2 ?side3 ?side4 ?side5 ?side6 A26.out).mono ?_); (case side1 => repeat (first | exact (Kd.C_below HR0_0.out HB.out) | (with_reducible refine Kd.C_alloc ?_ _) | (with_reducible refine Kd.C_drewN ?_ _) | (with_reducible refine Kd.C_drew ?_))); (case side2 => exact HC0_0.out); (case side3 => repeat (first | exact (Kd.C_below HR0_1.out HB.out) | (with_reducible refine Kd.C_alloc ?_ _) | (with_reducible refine Kd.C_drewN ?_ _) | (with_reducible refine Kd.C_drew ?_))); (case side4 => exact HC0_1.out); (case side5 => repeat (first | exact (Kd.C_below HR0_2.out HB.out) | (with_reducible refine Kd.C_alloc ?_ _) | (with_reducible refine Kd.C_drewN ?_ _) | (with_reducible refine Kd.C_drew ?_))); (case side6 => exact HC0_2.out); rintro e w29 ⟨rfl, hb⟩; refine ⟨_, rfl, ?_⟩; have n0_ := Aside0.mk (Kd.R_below (by exact HO_4.out) hb); have n1_ := Aside0.mk (Kd.R_below (by exact HO_5.out) hb); have n2_ := Aside0.mk (Kd.R_below (by exact HO_6.out) hb); have n3_ := Aside0.mk (blk_below (g := gb101) (o := .cells #[.slice A0_0 l0_0.length c0_0, .slice A0_1 l0_1.length c0_1, .slice A0_2 l0_2.length c0_2] 32 (0, 0)) (by (with_reducible repeat (first | refine blk_drewN ?_ _ | refine blk_drew ?_ | refine blk_alloc ?_ _)); exact BK101.out) hb); have n4_ := Aside0.mk (below_step (by repeat (first | (with_reducible first | exact HB.out | apply below_alloc | apply pw_below_drewN | apply below_drew1 | refine below_set ?_ GE101.out) | exact HB.out)) hb); clear HO_4; clear HO_5; clear HO_6; clear BK101; clear HB; have HO_4 := n0_; have HO_5 := n1_; have HO_6 := n2_; have BK101 := n3_; have HB := n4_; clear n0_ n1_ n2_ n3_ n4_; (try clear hb); (try clear hb2); (try clear hk); (try clear hi)))
           go_ret2
           exact ⟨_, by first | rfl | (simp [errW_none, errW_some] <;> rfl) | (simp [*, errW_none, errW_some] <;> rfl), by exact Kd.R_mono HO_6.out (fun _ hk => trivial), by repeat (first | (with_reducible first | exact HB.out | apply below_alloc | apply pw_below_drewN | apply below_drew1 | refine below_set ?_ GE101.out) | exact HB.out)⟩
          ·
           rw [if_neg c27] at H
           have c27b0 : (x7_1 == t112) = false := beq_eq_false_iff_ne.mpr c27
           have c27b1 : (x7_1 != t112) = true := bne_iff_ne.mpr c27
           have H' := Aside0.mk H
           clear H
           have hcz30_0 : wr.cell? ⟨gb101, 0, none⟩ = some (.slice A0_0 l0_0.length c0_0) := (blk_cell BK101.out 0).trans rfl
           have hcz30_1 : wr.cell? ⟨gb101, 1, none⟩ = some (.slice A0_1 l0_1.length c0_1) := (blk_cell BK101.out 1).trans rfl
           have hcz30_2 : wr.cell? ⟨gb101, 2, none⟩ = some (.slice A0_2 l0_2.length c0_2) := (blk_cell BK101.out 2).trans rfl
           have hfz30_0 := blk_frozen BK101.out 0
           have hfz30_1 := blk_frozen BK101.out 1
           have hfz30_2 := blk_frozen BK101.out 2
           go_wp2_with (first | ((with_reducible refine gate_callee (f := 127) rfl ?_); refine goesL_ (some 43) rfl rfl Try.func127 (by kernel_rfl) rfl #[.agg #[.slice A0_0 l0_0.length c0_0, .slice A0_1 l0_1.length c0_1, .slice A0_2 l0_2.length c0_2]] rfl (by (try simp only [List.map_toArray, List.map_cons, List.map_nil]); first | done | rfl | (simp only [List.length_drop, List.length_take]; rfl)) ?_; (with_reducible refine (impl_Jobs_whole.calls k2 _ _ l0_0 _ _ l0_1 _ _ l0_2 t112 _ ?side1 ?side2 ?side3 ?side4 ?side5 ?side6 A26.out).mono ?_); (case side1 => repeat (first | exact (Kd.C_below HR0_0.out HB.out) | (with_reducible refine Kd.C_alloc ?_ _) | (with_reducible refine Kd.C_drewN ?_ _) | (with_reducible refine Kd.C_drew ?_))); (case side2 => exact HC0_0.out); (case side3 => repeat (first | exact (Kd.C_below HR0_1.out HB.out) | (with_reducible refine Kd.C_alloc ?_ _) | (with_reducible refine Kd.C_drewN ?_ _) | (with_reducible refine Kd.C_drew ?_))); (case side4 => exact HC0_1.out); (case side5 => repeat (first | exact (Kd.C_below HR0_2.out HB.out) | (with_reducible refine Kd.C_alloc ?_ _) | (with_reducible refine Kd.C_drewN ?_ _) | (with_reducible refine Kd.C_drew ?_))); (case side6 => exact HC0_2.out); rintro e w31 ⟨rfl, hb⟩; refine ⟨_, rfl, ?_⟩; have n0_ := Aside0.mk (Kd.R_below (by exact HO_4.out) hb); have n1_ := Aside0.mk (Kd.R_below (by exact HO_5.out) hb); have n2_ := Aside0.mk (Kd.R_below (by exact HO_6.out) hb); have n3_ := Aside0.mk (blk_below (g := gb101) (o := .cells #[.slice A0_0 l0_0.length c0_0, .slice A0_1 l0_1.length c0_1, .slice A0_2 l0_2.length c0_2] 32 (0, 0)) (by (with_reducible repeat (first | refine blk_drewN ?_ _ | refine blk_drew ?_ | refine blk_alloc ?_ _)); exact BK101.out) hb); have n4_ := Aside0.mk (below_step (by repeat (first | (with_reducible first | exact HB.out | apply below_alloc | apply pw_below_drewN | apply below_drew1 | refine below_set ?_ GE101.out) | exact HB.out)) hb); clear HO_4; clear HO_5; clear HO_6; clear BK101; clear HB; have HO_4 := n0_; have HO_5 := n1_; have HO_6 := n2_; have BK101 := n3_; have HB := n4_; clear n0_ n1_ n2_ n3_ n4_; (try clear hb); (try clear hb2); (try clear hk); (try clear hi); have hcz32_0 : w31.cell? ⟨gb101, 0, none⟩ = some (.slice A0_0 l0_0.length c0_0) := (blk_cell BK101.out 0).trans rfl; have hcz32_1 : w31.cell? ⟨gb101, 1, none⟩ = some (.slice A0_1 l0_1.length c0_1) := (blk_cell BK101.out 1).trans rfl; have hcz32_2 : w31.cell? ⟨gb101, 2, none⟩ = some (.slice A0_2 l0_2.length c0_2) := (blk_cell BK101.out 2).trans rfl; have hfz32_0 := blk_frozen BK101.out 0; have hfz32_1 := blk_frozen BK101.out 1; have hfz32_2 := blk_frozen BK101.out 2))
           go_loopg [9, 49] k2 (fun kq v9 v49 w' => ∃ (x4_3 : List Int) (x5_3 : List Int) (x9_3 : Int) (x49_3 : Int), v9 = .int .i64 x9_3 ∧ v49 = .int .i64 x49_3 ∧ Aside0 (impl_Jobs_earliest.l2 kq x4_3 x5_3 x6_1 x7_1 x9_3 l0_1 (l0_1.length : Int) x49_3 l0_0 l0_1 l0_2 = some (r1, r2)) ∧ Aside0 (kq ≤ k2) ∧ Aside0 (Kd.R (Kd.int .i64) 2 w' w.heap.size (fun k_ => some k_ ≠ (v108 : Value).ownBlock ∧ some k_ ≠ (u6 : Value).ownBlock) (.slice Ao17 x4_1.length co17) x4_3) ∧ Aside0 (Kd.R (Kd.int .i64) 2 w' w.heap.size (fun k_ => some k_ ≠ ((.slice Ao17 x4_1.length co17) : Value).ownBlock ∧ some k_ ≠ (u6 : Value).ownBlock) v108 x5_3) ∧ Aside0 (Kd.R (Kd.int .i64) 2 w' w.heap.size (fun k_ => some k_ ≠ ((.slice Ao17 x4_1.length co17) : Value).ownBlock ∧ some k_ ≠ (v108 : Value).ownBlock) u6 x6_1) ∧ Aside0 (w'.heap[gb101]? = some (.cells #[(.slice A0_0 l0_0.length c0_0), (.slice A0_1 l0_1.length c0_1), (.slice A0_2 l0_2.length c0_2)] 32 (0, 0))) ∧ Aside0 (Below w.heap.size w w'))
           case atStart => exact ⟨(x4_1), (x5_1), ((-1)), (0), (by first | rfl | simp), (by first | rfl | simp), H', ⟨Nat.le_refl _⟩, ⟨by exact HO_4.out⟩, ⟨by exact HO_5.out⟩, ⟨by exact HO_6.out⟩, ⟨by (with_reducible repeat (first | refine blk_drewN ?_ _ | refine blk_drew ?_ | refine blk_alloc ?_ _)); exact BK101.out⟩, ⟨by repeat (first | (with_reducible first | exact HB.out | apply below_alloc | apply pw_below_drewN | apply below_drew1 | refine below_set ?_ GE101.out) | exact HB.out)⟩⟩
           case round =>
            clear H'
            try clear c1
            try clear p1
            try clear q1
            try clear hx1
            try clear c2
            try clear p2
            try clear c3
            try clear c3b0
            try clear c3b1
            try clear c4
            try clear c4b0
            try clear c4b1
            try clear c6
            try clear c6b0
            try clear c6b1
            try clear p6
            try clear c7
            try clear c7b0
            try clear c7b1
            try clear p11
            try clear q11
            try clear hx11
            try clear c12
            try clear c13
            try clear c18
            try clear c18b0
            try clear c19
            try clear c19b0
            try clear c20
            try clear c20b0
            try clear c21
            try clear c21b0
            try clear c22
            try clear c22b0
            try clear c23
            try clear c23b0
            try clear c27
            try clear c27b0
            try clear c27b1
            try clear hcz28_0
            try clear hcz28_1
            try clear hcz28_2
            try clear hcz30_0
            try clear hcz30_1
            try clear hcz30_2
            try clear hcz32_0
            try clear hcz32_1
            try clear hcz32_2
            try clear hfz28_0
            try clear hfz28_1
            try clear hfz28_2
            try clear hfz30_0
            try clear hfz30_1
            try clear hfz30_2
            try clear hfz32_0
            try clear hfz32_1
            try clear hfz32_2
            try clear hx110_0
            try clear hx111_0
            try clear p110
            try clear p111
            try clear p2
            try clear q110
            try clear q111
            obtain ⟨x4_3, x5_3, x9_3, x49_3, rfl, rfl, HA, HK3, HO_4, HO_5, HO_6, BK101, HB⟩ := hrel
            have hl4_3 := (Kd.R_reads' HO_4.out).1
            rw [hl4_3] at HO_4
            (try simp only [hl4_3])
            (try simp only [hl4_3] at BK101)
            (try simp only [hl4_3] at HO_5)
            (try simp only [hl4_3] at HO_6)
            cases gk with
            | zero => exact absurd HA.out (by simp [impl_Jobs_earliest.l2])
            | succ k3 =>
             have H := HA.out
             clear HA
             simp only [impl_Jobs_earliest.l2] at H
             by_cases c33 : x49_3 < (l0_1.length : Int)
             ·
              rw [if_pos c33] at H
              have c33b0 : decide (x49_3 < (l0_1.length : Int)) = true := decide_eq_true c33
              clear c33
              by_cases c34 : 0 ≤ x49_3
              ·
               rw [if_pos c34] at H
               have c34b0 : decide (0 ≤ x49_3) = true := decide_eq_true c34
               clear c34
               by_cases c35 : x49_3 < (l0_1.length : Int)
               ·
                rw [if_pos c35] at H
                have c35b0 : decide (x49_3 < (l0_1.length : Int)) = true := decide_eq_true c35
                clear c35
                by_cases c36 : (rd l0_1 x49_3) = 0
                ·
                 rw [if_pos c36] at H
                 exact absurd H (by simp)
                ·
                 rw [if_neg c36] at H
                 have c36b0 : ((rd l0_1 x49_3) == 0) = false := beq_eq_false_iff_ne.mpr c36
                 have c36b1 : ((rd l0_1 x49_3) != 0) = true := bne_iff_ne.mpr c36
                 by_cases c37 : (Int.tmod x7_1 (rd l0_1 x49_3)) = 0
                 ·
                  rw [if_pos c37] at H
                  have c37b0 : ((Int.tmod x7_1 (rd l0_1 x49_3)) == 0) = true := beq_iff_eq.mpr c37
                  have c37b1 : ((Int.tmod x7_1 (rd l0_1 x49_3)) != 0) = false := bne_eq_false_iff_eq.mpr c37
                  clear c37
                  by_cases c38 : x49_3 < (l0_0.length : Int)
                  ·
                   rw [if_pos c38] at H
                   have c38b0 : decide (x49_3 < (l0_0.length : Int)) = true := decide_eq_true c38
                   clear c38
                   by_cases c39 : x49_3 < (l0_2.length : Int)
                   ·
                    rw [if_pos c39] at H
                    have c39b0 : decide (x49_3 < (l0_2.length : Int)) = true := decide_eq_true c39
                    clear c39
                    by_cases c40 : x49_3 < (x4_3.length : Int)
                    ·
                     rw [if_pos c40] at H
                     have c40b0 : decide (x49_3 < (x4_3.length : Int)) = true := decide_eq_true c40
                     clear c40
                     obtain ⟨y124, hy124⟩ : ∃ y_ : List Int, y_ = (x4_3.set (x49_3 : Int).toNat (rd l0_0 x49_3)) := ⟨_, rfl⟩
                     replace H : (if x49_3 < (x5_3.length : Int) then ((some (x5_3.set (x49_3 : Int).toNat (wrap64 (x7_1 + (rd l0_2 x49_3))) : List Int)).bind fun y125 => (if (rd y124 x49_3) > 0 then (if x9_3 = (-1) then (impl_Jobs_earliest.l2 k3 y124 y125 x6_1 x7_1 x49_3 l0_1 (l0_1.length : Int) (wrap64 (x49_3 + 1)) l0_0 l0_1 l0_2) else (if 0 ≤ x9_3 then (if x9_3 < (x5_3.length : Int) then (if (rd y125 x49_3) < (rd y125 x9_3) then (impl_Jobs_earliest.l2 k3 y124 y125 x6_1 x7_1 x49_3 l0_1 (l0_1.length : Int) (wrap64 (x49_3 + 1)) l0_0 l0_1 l0_2) else (impl_Jobs_earliest.l2 k3 y124 y125 x6_1 x7_1 x9_3 l0_1 (l0_1.length : Int) (wrap64 (x49_3 + 1)) l0_0 l0_1 l0_2)) else (none)) else (none))) else (impl_Jobs_earliest.l2 k3 y124 y125 x6_1 x7_1 x9_3 l0_1 (l0_1.length : Int) (wrap64 (x49_3 + 1)) l0_0 l0_1 l0_2))) else (none)) = some (r1, r2) := by first | (rw [hy124]; with_reducible exact H) | (have H2_ := (Option.bind_some _ _).symm.trans H; rw [hy124]; with_reducible exact H2_) | (have H2_ := (Option.bind_some _ _).symm.trans H; with_reducible exact H2_) | with_reducible exact H | (rw [hy124]; exact H) | exact H
                     have Ny124 := Aside0.mk hy124
                     clear hy124
                     by_cases c42 : x49_3 < (x5_3.length : Int)
                     ·
                      rw [if_pos c42] at H
                      have c42b0 : decide (x49_3 < (x5_3.length : Int)) = true := decide_eq_true c42
                      clear c42
                      obtain ⟨y125, hy125⟩ : ∃ y_ : List Int, y_ = (x5_3.set (x49_3 : Int).toNat (wrap64 (x7_1 + (rd l0_2 x49_3)))) := ⟨_, rfl⟩
                      replace H : (if (rd y124 x49_3) > 0 then (if x9_3 = (-1) then (impl_Jobs_earliest.l2 k3 y124 y125 x6_1 x7_1 x49_3 l0_1 (l0_1.length : Int) (wrap64 (x49_3 + 1)) l0_0 l0_1 l0_2) else (if 0 ≤ x9_3 then (if x9_3 < (x5_3.length : Int) then (if (rd y125 x49_3) < (rd y125 x9_3) then (impl_Jobs_earliest.l2 k3 y124 y125 x6_1 x7_1 x49_3 l0_1 (l0_1.length : Int) (wrap64 (x49_3 + 1)) l0_0 l0_1 l0_2) else (impl_Jobs_earliest.l2 k3 y124 y125 x6_1 x7_1 x9_3 l0_1 (l0_1.length : Int) (wrap64 (x49_3 + 1)) l0_0 l0_1 l0_2)) else (none)) else (none))) else (impl_Jobs_earliest.l2 k3 y124 y125 x6_1 x7_1 x9_3 l0_1 (l0_1.length : Int) (wrap64 (x49_3 + 1)) l0_0 l0_1 l0_2)) = some (r1, r2) := by first | (rw [hy125]; with_reducible exact H) | (have H2_ := (Option.bind_some _ _).symm.trans H; rw [hy125]; with_reducible exact H2_) | (have H2_ := (Option.bind_some _ _).symm.trans H; with_reducible exact H2_) | with_reducible exact H | (rw [hy125]; exact H) | exact H
                      have Ny125 := Aside0.mk hy125
                      clear hy125
                      by_cases c44 : (rd y124 x49_3) > 0
                      ·
                       rw [if_pos c44] at H
                       have c44b0 : decide (0 < (rd y124 x49_3)) = true := decide_eq_true c44
                       clear c44
                       by_cases c45 : x9_3 = (-1)
                       ·
                        rw [if_pos c45] at H
                        have c45b0 : (x9_3 == (-1)) = true := beq_iff_eq.mpr c45
                        have c45b1 : (x9_3 != (-1)) = false := bne_eq_false_iff_eq.mpr c45
                        clear c45
                        have H' := Aside0.mk H
                        clear H
                        have p121 : 0 ≤ (x49_3 : Int) := of_decide_eq_true (by assumption)
                        have q121 : x49_3 < (l0_1.length : Int) := of_decide_eq_true (by assumption)
                        obtain ⟨ad121, e121, hx121_0⟩ := Kd.at_int HR0_1.out x49_3 p121 q121
                        cases e121
                        replace hx121_0 := (HB.out.cell (World.block_lt_of_cell? w _ hx121_0)).trans hx121_0
                        replace p121 := eq_true p121
                        replace q121 := eq_true q121
                        try go_wp2
                        have n0_ := Aside0.mk (Kd.R_drew HO_4.out)
                        have n1_ := Aside0.mk (Kd.R_drew HO_5.out)
                        have n2_ := Aside0.mk (Kd.R_drew HO_6.out)
                        have n3_ := Aside0.mk (blk_drew BK101.out)
                        have n4_ := Aside0.mk (below_drew1 HB.out)
                        clear HO_4
                        clear HO_5
                        clear HO_6
                        clear BK101
                        clear HB
                        have HO_4 := n0_
                        have HO_5 := n1_
                        have HO_6 := n2_
                        have BK101 := n3_
                        have HB := n4_
                        clear n0_ n1_ n2_ n3_ n4_
                        have p122 : 0 ≤ (x49_3 : Int) := of_decide_eq_true (by assumption)
                        have q122 : x49_3 < (l0_0.length : Int) := of_decide_eq_true (by assumption)
                        obtain ⟨ad122, e122, hx122_0⟩ := Kd.at_int HR0_0.out x49_3 p122 q122
                        have hw122_0 := hx122_0
                        cases e122
                        replace hx122_0 := (HB.out.cell (World.block_lt_of_cell? w _ hx122_0)).trans hx122_0
                        replace p122 := eq_true p122
                        replace q122 := eq_true q122
                        have p123 : 0 ≤ (x49_3 : Int) := of_decide_eq_true (by assumption)
                        have q123 : x49_3 < (l0_2.length : Int) := of_decide_eq_true (by assumption)
                        obtain ⟨ad123, e123, hx123_0⟩ := Kd.at_int HR0_2.out x49_3 p123 q123
                        have hw123_0 := hx123_0
                        cases e123
                        replace hx123_0 := (HB.out.cell (World.block_lt_of_cell? w _ hx123_0)).trans hx123_0
                        replace p123 := eq_true p123
                        replace q123 := eq_true q123
                        have p41 : 0 ≤ (x49_3 : Int) := of_decide_eq_true (by assumption)
                        have q41 : (x49_3 : Int) < ((x4_3.length : Int) : Int) := of_decide_eq_true (by assumption)
                        obtain ⟨go41, co41, eo41, gb41, gl41, cl41, HG41⟩ := Kd.R_form HO_4.out (by omega)
                        (first | cases eo41 | (injection eo41 with ea_ en_ ec_; (first | subst ea_ | (injection ea_ with ea_; subst ea_)); subst ec_; clear en_))
                        have GB41 := Aside0.mk gb41
                        have GG41 := Aside0.mk HG41
                        clear gb41 gl41 HG41
                        obtain ⟨hx41_0, hf41_0⟩ := Kd.R_celln 0 HO_4.out (x49_3 : Int) p41 q41
                        replace p41 := eq_true p41
                        replace q41 := eq_true q41
                        have HP47 := Kd.R_putn HO_4.out (x49_3 : Int) (rd l0_0 x49_3)
                        rw [← Ny124.out] at HP47
                        have HQ47 := Aside0.mk HP47
                        clear HP47
                        have p43 : 0 ≤ (x49_3 : Int) := of_decide_eq_true (by assumption)
                        have q43 : (x49_3 : Int) < ((x5_3.length : Int) : Int) := of_decide_eq_true (by assumption)
                        obtain ⟨go43, co43, eo43, gb43, gl43, cl43, HG43⟩ := Kd.R_form HO_5.out (by omega)
                        (first | cases eo43 | (injection eo43 with ea_ en_ ec_; (first | subst ea_ | (injection ea_ with ea_; subst ea_)); subst ec_; clear en_))
                        have GB43 := Aside0.mk gb43
                        have GG43 := Aside0.mk HG43
                        clear gb43 gl43 HG43
                        obtain ⟨hx43_0, hf43_0⟩ := Kd.R_celln 0 (Kd.R_far (p := ⟨go41, (x49_3 : Int).toNat, none⟩) (Kd.R_mono HO_5.out (fun k_ hk => (⟨hk, fun e_ => hk.1 (by rw [e_]; rfl)⟩ : _ ∧ k_ ≠ go41))) (fun _ hk => hk.2) (.int .i64 (rd l0_0 x49_3))) (x49_3 : Int) p43 q43
                        replace p43 := eq_true p43
                        replace q43 := eq_true q43
                        have HP48 := Kd.R_putn (Kd.R_far (p := ⟨go41, (x49_3 : Int).toNat, none⟩) (Kd.R_mono HO_5.out (fun k_ hk => (⟨hk, fun e_ => hk.1 (by rw [e_]; rfl)⟩ : _ ∧ k_ ≠ go41))) (fun _ hk => hk.2) (.int .i64 (rd l0_0 x49_3))) (x49_3 : Int) (wrap64 (x7_1 + (rd l0_2 x49_3)))
                        rw [← Ny125.out] at HP48
                        have HQ48 := Aside0.mk HP48
                        clear HP48
                        refine start_ (n := 20) (S := fun w' => w'.cell? ⟨gb101, 0, none⟩ = some (.slice (some ad122) l0_0.length c0_0) ∧ w'.cell? ⟨gb101, 1, none⟩ = some (.slice (some ad121) l0_1.length c0_1) ∧ w'.cell? ⟨gb101, 2, none⟩ = some (.slice (some ad123) l0_2.length c0_2) ∧ w'.cell? (ad122.add (x49_3).toNat) = some (.int .i64 (rd l0_0 x49_3)) ∧ w'.cell? (ad123.add (x49_3).toNat) = some (.int .i64 (rd l0_2 x49_3))) (ds := [17, 19]) #[false,false,false,false,false,false,false,false,false,false,false,false,false,false,false,false,false,false,false,false] (by kernel_rfl) rfl rfl ⟨(blk_cell BK101.out 0).trans rfl, (blk_cell BK101.out 1).trans rfl, (blk_cell BK101.out 2).trans rfl, ((HB.out.cell (World.block_lt_of_cell? w _ hw122_0)).trans hw122_0), ((HB.out.cell (World.block_lt_of_cell? w _ hw123_0)).trans hw123_0)⟩ (fun hHeld => ?_); refine with_tabW impl_Jobs_earliest.tab18 impl_Jobs_earliest.bits18 (fun HT_ HW_ => ?_)
                        generalize wr.drew = w46 at HO_4 HO_5 HO_6 BK101 HB GG41 GG43 HQ47 HQ48 hf41_0 hf43_0 hx122_0 hx123_0 hx41_0 hx43_0 hHeld ⊢
                        refine pure_ (i := 0) (N := some 58) (v := ?_) (a' := ?_) #[true,false,false,false,false,false,false,false,false,false,false,false,false,false,false,false,false,false,false,false] rfl rfl (any_of HT_.out (by kernel_rfl)) (fun _ _ _ h => h) (Or.inl ⟨by rfl, ?_⟩) ?_ ?_
                        rotate_left; (· intro w'; go_simp; with_reducible rfl); rotate_left; (· simp only [Act.put, q2af_1, q2af_2, q2af_3, i64_w, i32_w]; rfl)
                        refine pure_ (i := 1) (N := some 59) (v := ?_) (a' := ?_) #[true,true,false,false,false,false,false,false,false,false,false,false,false,false,false,false,false,false,false,false] rfl rfl (any_of HT_.out (by kernel_rfl)) (fun _ _ _ h => h) (Or.inl ⟨by rfl, ?_⟩) ?_ ?_
                        rotate_left; (· intro w'; go_simp; with_reducible rfl); rotate_left; (· simp only [Act.put, q2af_1, q2af_2, q2af_3, i64_w, i32_w]; rfl)
                        refine pure_ (i := 2) (N := some 60) (v := ?_) (a' := ?_) #[true,true,true,false,false,false,false,false,false,false,false,false,false,false,false,false,false,false,false,false] rfl rfl (any_of HT_.out (by kernel_rfl)) (fun _ _ _ h => h) (Or.inl ⟨by rfl, ?_⟩) ?_ ?_
                        rotate_left; (· intro w'; go_simp; with_reducible rfl); rotate_left; (· simp only [Act.put, q2af_1, q2af_2, q2af_3, i64_w, i32_w]; rfl)
                        refine pure_ (i := 3) (N := some 61) (v := ?_) (a' := ?_) #[true,true,true,true,false,false,false,false,false,false,false,false,false,false,false,false,false,false,false,false] rfl rfl (any_of HT_.out (by kernel_rfl)) (fun _ _ _ h => h) (Or.inl ⟨by rfl, ?_⟩) ?_ ?_
                        rotate_left; (· intro w'; go_simp; with_reducible rfl); rotate_left; (· simp only [Act.put, q2af_1, q2af_2, q2af_3, i64_w, i32_w]; rfl)
                        refine pure_ (i := 4) (N := some 62) (v := ?_) (a' := ?_) #[true,true,true,true,true,false,false,false,false,false,false,false,false,false,false,false,false,false,false,false] rfl rfl (any_of HT_.out (by kernel_rfl)) (fun _ _ _ h => h) (Or.inl ⟨by rfl, ?_⟩) ?_ ?_
                        rotate_left; (· intro w'; go_simp; with_reducible rfl); rotate_left; (· simp only [Act.put, q2af_1, q2af_2, q2af_3, i64_w, i32_w]; rfl)
                        refine pure_ (i := 6) (N := some 64) (v := ?_) (a' := ?_) #[true,true,true,true,true,false,true,false,false,false,false,false,false,false,false,false,false,false,false,false] rfl rfl (any_of HT_.out (by kernel_rfl)) (fun _ _ _ h => h) (Or.inl ⟨by rfl, ?_⟩) ?_ ?_
                        rotate_left; (· intro w'; go_simp; with_reducible rfl); rotate_left; (· simp only [Act.put, q2af_1, q2af_2, q2af_3, i64_w, i32_w]; rfl)
                        refine pure_ (i := 9) (N := some 67) (v := ?_) (a' := ?_) #[true,true,true,true,true,false,true,false,false,true,false,false,false,false,false,false,false,false,false,false] rfl rfl (any_of HT_.out (by kernel_rfl)) (fun _ _ _ h => h) (Or.inl ⟨by rfl, ?_⟩) ?_ ?_
                        rotate_left; (· intro w'; go_simp; with_reducible rfl); rotate_left; (· simp only [Act.put, q2af_1, q2af_2, q2af_3, i64_w, i32_w]; rfl)
                        refine pure_ (i := 10) (N := some 68) (v := ?_) (a' := ?_) #[true,true,true,true,true,false,true,false,false,true,true,false,false,false,false,false,false,false,false,false] rfl rfl (any_of HT_.out (by kernel_rfl)) (fun _ _ _ h => h) (Or.inl ⟨by rfl, ?_⟩) ?_ ?_
                        rotate_left; (· intro w'; go_simp; with_reducible rfl); rotate_left; (· simp only [Act.put, q2af_1, q2af_2, q2af_3, i64_w, i32_w]; rfl)
                        refine pure_ (i := 12) (N := some 70) (v := ?_) (a' := ?_) #[true,true,true,true,true,false,true,false,false,true,true,false,true,false,false,false,false,false,false,false] rfl rfl (any_of HT_.out (by kernel_rfl)) (fun _ _ _ h => h) (Or.inl ⟨by rfl, ?_⟩) ?_ ?_
                        rotate_left; (· intro w'; go_simp; with_reducible rfl); rotate_left; (· simp only [Act.put, q2af_1, q2af_2, q2af_3, i64_w, i32_w]; rfl)
                        refine take_ (i := 5) (N := some 63) (v := ?_) (a' := ?_) #[true,true,true,true,true,true,true,false,false,true,true,false,true,false,false,false,false,false,false,false] rfl rfl (take_ofW HT_.out HW_.out (by kernel_rfl)) (fun _ _ _ h => h) (Or.inl ⟨by rfl, ?_⟩) hHeld ?_ ?_
                        rotate_left; (· rintro w' ⟨s0, s1, s2, s3, s4⟩; go_simp; with_reducible rfl); rotate_left; (· simp only [Act.put, q2af_1, q2af_2, q2af_3, i64_w, i32_w]; rfl)
                        refine pure_ (i := 7) (N := some 65) (v := ?_) (a' := ?_) #[true,true,true,true,true,true,true,true,false,true,true,false,true,false,false,false,false,false,false,false] rfl rfl (any_of HT_.out (by kernel_rfl)) (fun _ _ _ h => h) (Or.inl ⟨by rfl, ?_⟩) ?_ ?_
                        rotate_left; (· intro w'; go_simp; with_reducible rfl); rotate_left; (· simp only [Act.put, q2af_1, q2af_2, q2af_3, i64_w, i32_w]; rfl)
                        refine take_ (i := 8) (N := some 66) (v := ?_) (a' := ?_) #[true,true,true,true,true,true,true,true,true,true,true,false,true,false,false,false,false,false,false,false] rfl rfl (take_ofW HT_.out HW_.out (by kernel_rfl)) (fun _ _ _ h => h) (Or.inl ⟨by rfl, ?_⟩) hHeld ?_ ?_
                        rotate_left; (· rintro w' ⟨s0, s1, s2, s3, s4⟩; go_simp; with_reducible rfl); rotate_left; (· simp only [Act.put, q2af_1, q2af_2, q2af_3, i64_w, i32_w]; rfl)
                        refine take_ (i := 11) (N := some 69) (v := ?_) (a' := ?_) #[true,true,true,true,true,true,true,true,true,true,true,true,true,false,false,false,false,false,false,false] rfl rfl (take_ofW HT_.out HW_.out (by kernel_rfl)) (fun _ _ _ h => h) (Or.inl ⟨by rfl, ?_⟩) hHeld ?_ ?_
                        rotate_left; (· rintro w' ⟨s0, s1, s2, s3, s4⟩; go_simp; with_reducible rfl); rotate_left; (· simp only [Act.put, q2af_1, q2af_2, q2af_3, i64_w, i32_w]; rfl)
                        refine pure_ (i := 13) (N := some 71) (v := ?_) (a' := ?_) #[true,true,true,true,true,true,true,true,true,true,true,true,true,true,false,false,false,false,false,false] rfl rfl (any_of HT_.out (by kernel_rfl)) (fun _ _ _ h => h) (Or.inl ⟨by rfl, ?_⟩) ?_ ?_
                        rotate_left; (· intro w'; go_simp; with_reducible rfl); rotate_left; (· simp only [Act.put, q2af_1, q2af_2, q2af_3, i64_w, i32_w]; rfl)
                        refine take_ (i := 14) (N := some 72) (v := ?_) (a' := ?_) #[true,true,true,true,true,true,true,true,true,true,true,true,true,true,true,false,false,false,false,false] rfl rfl (take_ofW HT_.out HW_.out (by kernel_rfl)) (fun _ _ _ h => h) (Or.inl ⟨by rfl, ?_⟩) hHeld ?_ ?_
                        rotate_left; (· rintro w' ⟨s0, s1, s2, s3, s4⟩; go_simp; with_reducible rfl); rotate_left; (· simp only [Act.put, q2af_1, q2af_2, q2af_3, i64_w, i32_w]; rfl)
                        refine pure_ (i := 15) (N := some 73) (v := ?_) (a' := ?_) #[true,true,true,true,true,true,true,true,true,true,true,true,true,true,true,true,false,false,false,false] rfl rfl (any_of HT_.out (by kernel_rfl)) (fun _ _ _ h => h) (Or.inl ⟨by rfl, ?_⟩) ?_ ?_
                        rotate_left; (· intro w'; go_simp; with_reducible rfl); rotate_left; (· simp only [Act.put, q2af_1, q2af_2, q2af_3, i64_w, i32_w]; rfl)
                        refine pure_ (i := 16) (N := some 74) (v := ?_) (a' := ?_) #[true,true,true,true,true,true,true,true,true,true,true,true,true,true,true,true,true,false,false,false] rfl rfl (any_of HT_.out (by kernel_rfl)) (fun _ _ _ h => h) (Or.inl ⟨by rfl, ?_⟩) ?_ ?_
                        rotate_left; (· intro w'; go_simp; with_reducible rfl); rotate_left; (· simp only [Act.put, q2af_1, q2af_2, q2af_3, i64_w, i32_w]; rfl)
                        refine last_ (i := 17) (N := none) #[true,true,true,true,true,true,true,true,true,true,true,true,true,true,true,true,true,true,false,false] rfl rfl (one_of HT_.out (by kernel_rfl)) (by decide) (fun K hK => ?_)
                        refine skip_ (w1 := ?_) (by rfl) rfl ?_ ?_
                        rotate_left
                        ·
                         go_simp
                         rfl
                        refine hK.out _ _ ?_
                        clear hK K
                        refine pure_ (i := 18) (N := some 75) (v := ?_) (a' := ?_) #[true,true,true,true,true,true,true,true,true,true,true,true,true,true,true,true,true,true,true,false] rfl rfl (any_of HT_.out (by kernel_rfl)) (fun _ _ _ h => h) (Or.inl ⟨by rfl, ?_⟩) ?_ ?_
                        rotate_left; (· intro w'; go_simp; with_reducible rfl); rotate_left; (· simp only [Act.put, q2af_1, q2af_2, q2af_3, i64_w, i32_w]; rfl)
                        refine last_ (i := 19) (N := none) #[true,true,true,true,true,true,true,true,true,true,true,true,true,true,true,true,true,true,true,true] rfl rfl (one_of HT_.out (by kernel_rfl)) (by decide) (fun K hK => ?_)
                        refine skip_ (w1 := ?_) (by rfl) rfl ?_ ?_
                        rotate_left
                        ·
                         go_simp
                         rfl
                        refine hK.out _ _ ?_
                        clear hK K
                        refine done_ (done_of HT_.out (by kernel_rfl)) ?_
                        try go_wp2
                        have n0_ : Aside0 (Kd.R (Kd.int .i64) 2 ((w46.setCell ⟨go41, (x49_3 : Int).toNat, none⟩ (.int .i64 (rd l0_0 x49_3))).setCell ⟨go43, (x49_3 : Int).toNat, none⟩ (.int .i64 (wrap64 (x7_1 + (rd l0_2 x49_3))))) w.heap.size (fun k_ => some k_ ≠ (.slice (some ⟨go43, 0, none⟩) x5_3.length co43 : Value).ownBlock ∧ some k_ ≠ (u6 : Value).ownBlock) (.slice (some ⟨go41, 0, none⟩) x4_3.length co17) y124) := ⟨by exact Kd.R_mono (Kd.R_far (p := ⟨go43, (x49_3 : Int).toNat, none⟩) (Kd.R_mono HQ47.out (fun k_ hk => (⟨hk, fun e_ => hk.1 (by rw [e_]; rfl)⟩ : _ ∧ k_ ≠ go43))) (fun _ hk => hk.2) (.int .i64 (wrap64 (x7_1 + (rd l0_2 x49_3))))) (fun _ hk => ⟨hk.1.1, hk.1.2⟩)⟩
                        have n1_ : Aside0 (Kd.R (Kd.int .i64) 2 ((w46.setCell ⟨go41, (x49_3 : Int).toNat, none⟩ (.int .i64 (rd l0_0 x49_3))).setCell ⟨go43, (x49_3 : Int).toNat, none⟩ (.int .i64 (wrap64 (x7_1 + (rd l0_2 x49_3))))) w.heap.size (fun k_ => some k_ ≠ (.slice (some ⟨go41, 0, none⟩) x4_3.length co17 : Value).ownBlock ∧ some k_ ≠ (u6 : Value).ownBlock) (.slice (some ⟨go43, 0, none⟩) x5_3.length co43) y125) := ⟨by exact Kd.R_mono HQ48.out (fun _ hk => ⟨hk.1.1, hk.1.2⟩)⟩
                        have n2_ : Aside0 (Kd.R (Kd.int .i64) 2 ((w46.setCell ⟨go41, (x49_3 : Int).toNat, none⟩ (.int .i64 (rd l0_0 x49_3))).setCell ⟨go43, (x49_3 : Int).toNat, none⟩ (.int .i64 (wrap64 (x7_1 + (rd l0_2 x49_3))))) w.heap.size (fun k_ => some k_ ≠ (.slice (some ⟨go41, 0, none⟩) x4_3.length co17 : Value).ownBlock ∧ some k_ ≠ (.slice (some ⟨go43, 0, none⟩) x5_3.length co43 : Value).ownBlock) u6 x6_1) := ⟨by exact Kd.R_mono (Kd.R_far (p := ⟨go43, (x49_3 : Int).toNat, none⟩) (Kd.R_far (p := ⟨go41, (x49_3 : Int).toNat, none⟩) (Kd.R_mono (Kd.R_mono HO_6.out (fun k_ hk => (⟨hk, fun e_ => hk.1 (by rw [e_]; rfl)⟩ : _ ∧ k_ ≠ go41))) (fun k_ hk => (⟨hk, fun e_ => hk.1.2 (by rw [e_]; rfl)⟩ : _ ∧ k_ ≠ go43))) (fun _ hk => hk.1.2) (.int .i64 (rd l0_0 x49_3))) (fun _ hk => hk.2) (.int .i64 (wrap64 (x7_1 + (rd l0_2 x49_3))))) (fun _ hk => ⟨hk.1.1.1, hk.1.1.2⟩)⟩
                        have n3_ : Aside0 (((w46.setCell ⟨go41, (x49_3 : Int).toNat, none⟩ (.int .i64 (rd l0_0 x49_3))).setCell ⟨go43, (x49_3 : Int).toNat, none⟩ (.int .i64 (wrap64 (x7_1 + (rd l0_2 x49_3))))).heap[gb101]? = some (.cells #[.slice (some ad122) l0_0.length c0_0, .slice (some ad121) l0_1.length c0_1, .slice (some ad123) l0_2.length c0_2] 32 (0, 0))) := ⟨by (with_reducible repeat (first | refine blk_drewN ?_ _ | refine blk_drew ?_ | refine blk_alloc ?_ _)); refine blk_far ?_ (by have h_ := Kd.R_ne HO_5.out BK101.out (by decide); intro e_; exact h_ (by rw [e_]; rfl)) _; (with_reducible repeat (first | refine blk_drewN ?_ _ | refine blk_drew ?_ | refine blk_alloc ?_ _)); refine blk_far ?_ (by have h_ := Kd.R_ne HO_4.out BK101.out (by decide); intro e_; exact h_ (by rw [e_]; rfl)) _; (with_reducible repeat (first | refine blk_drewN ?_ _ | refine blk_drew ?_ | refine blk_alloc ?_ _)); exact BK101.out⟩
                        have n4_ : Aside0 (Below w.heap.size w ((w46.setCell ⟨go41, (x49_3 : Int).toNat, none⟩ (.int .i64 (rd l0_0 x49_3))).setCell ⟨go43, (x49_3 : Int).toNat, none⟩ (.int .i64 (wrap64 (x7_1 + (rd l0_2 x49_3)))))) := ⟨by repeat (first | (with_reducible first | exact HB.out | apply below_alloc | apply pw_below_drewN | apply below_drew1 | refine below_set ?_ GB41.out | refine below_set ?_ GB43.out | refine below_set ?_ GE101.out) | exact HB.out)⟩
                        (try clear HO_4)
                        (try clear HO_5)
                        (try clear HO_6)
                        (try clear BK101)
                        (try clear HB)
                        generalize ((w46.setCell ⟨go41, (x49_3 : Int).toNat, none⟩ (.int .i64 (rd l0_0 x49_3))).setCell ⟨go43, (x49_3 : Int).toNat, none⟩ (.int .i64 (wrap64 (x7_1 + (rd l0_2 x49_3))))) = w49 at n0_ n1_ n2_ n3_ n4_ ⊢
                        have HO_4 := n0_
                        have HO_5 := n1_
                        have HO_6 := n2_
                        have BK101 := n3_
                        have HB := n4_
                        clear n0_ n1_ n2_ n3_ n4_
                        have n0_ := Aside0.mk (Kd.R_drew HO_4.out)
                        have n1_ := Aside0.mk (Kd.R_drew HO_5.out)
                        have n2_ := Aside0.mk (Kd.R_drew HO_6.out)
                        have n3_ := Aside0.mk (blk_drew BK101.out)
                        have n4_ := Aside0.mk (below_drew1 HB.out)
                        clear HO_4
                        clear HO_5
                        clear HO_6
                        clear BK101
                        clear HB
                        have HO_4 := n0_
                        have HO_5 := n1_
                        have HO_6 := n2_
                        have BK101 := n3_
                        have HB := n4_
                        clear n0_ n1_ n2_ n3_ n4_
                        have p126 : 0 ≤ (x49_3 : Int) := of_decide_eq_true (by assumption)
                        have q126 : x49_3 < (y124.length : Int) := (by have h_ : (x49_3 : Int) < ((x4_3.length : Int) : Int) := of_decide_eq_true (by assumption); first | (have e_ := (Kd.R_reads' HO_4.out).1; omega) | simpa only [Ny124.out, List.length_set] using h_)
                        have ql126 : ((x49_3 : Int) < ((x4_3.length : Int) : Int)) = True := eq_true (of_decide_eq_true (by assumption))
                        obtain ⟨ad126, e126, hx126_0⟩ := Kd.at_int (Kd.R_reads' HO_4.out).2.2 x49_3 p126 q126
                        obtain rfl : (⟨go41, 0, none⟩ : Addr) = ad126 := (by injection e126)
                        (first | simp only [add_plain] at hx126_0 | simp only [add_at] at hx126_0 | simp only [Addr.add, Nat.zero_add] at hx126_0 | skip)
                        replace p126 := eq_true p126
                        replace q126 := eq_true q126
                        refine start_ (n := 20) (S := fun w' => w'.cell? ⟨go41, (x49_3).toNat, none⟩ = some (.int .i64 (rd y124 x49_3))) (ds := []) #[false,false,false,false,false,false,false,false,false,false,false,false,false,false,false,false,false,false,false,false] (by kernel_rfl) rfl rfl (hx126_0) (fun hHeld => ?_); refine with_tabW impl_Jobs_earliest.tab19 impl_Jobs_earliest.bits19 (fun HT_ HW_ => ?_)
                        generalize w49.drew = w50 at HO_4 HO_5 HO_6 BK101 HB HQ47 HQ48 hx126_0 hHeld ⊢
                        refine pure_ (i := 0) (N := some 76) (v := ?_) (a' := ?_) #[true,false,false,false,false,false,false,false,false,false,false,false,false,false,false,false,false,false,false,false] rfl rfl (any_of HT_.out (by kernel_rfl)) (fun _ _ _ h => h) (Or.inl ⟨by rfl, ?_⟩) ?_ ?_
                        rotate_left; (· intro w'; go_simp; with_reducible rfl); rotate_left; (· simp only [Act.put, q2af_1, q2af_2, q2af_3, i64_w, i32_w]; rfl)
                        refine pure_ (i := 1) (N := some 77) (v := ?_) (a' := ?_) #[true,true,false,false,false,false,false,false,false,false,false,false,false,false,false,false,false,false,false,false] rfl rfl (any_of HT_.out (by kernel_rfl)) (fun _ _ _ h => h) (Or.inl ⟨by rfl, ?_⟩) ?_ ?_
                        rotate_left; (· intro w'; go_simp; with_reducible rfl); rotate_left; (· simp only [Act.put, q2af_1, q2af_2, q2af_3, i64_w, i32_w]; rfl)
                        refine pure_ (i := 2) (N := some 78) (v := ?_) (a' := ?_) #[true,true,true,false,false,false,false,false,false,false,false,false,false,false,false,false,false,false,false,false] rfl rfl (any_of HT_.out (by kernel_rfl)) (fun _ _ _ h => h) (Or.inl ⟨by rfl, ?_⟩) ?_ ?_
                        rotate_left; (· intro w'; go_simp; with_reducible rfl); rotate_left; (· simp only [Act.put, q2af_1, q2af_2, q2af_3, i64_w, i32_w]; rfl)
                        refine take_ (i := 3) (N := some 79) (v := ?_) (a' := ?_) #[true,true,true,true,false,false,false,false,false,false,false,false,false,false,false,false,false,false,false,false] rfl rfl (take_ofW HT_.out HW_.out (by kernel_rfl)) (fun _ _ _ h => h) (Or.inl ⟨by rfl, ?_⟩) hHeld ?_ ?_
                        rotate_left
                        ·
                         intro w' s0
                         go_simp
                         with_reducible rfl
                        rotate_left
                        ·
                         simp only [Act.put, q2af_1, q2af_2, q2af_3, i64_w, i32_w]
                         rfl
                        refine pure_ (i := 4) (N := some 80) (v := ?_) (a' := ?_) #[true,true,true,true,true,false,false,false,false,false,false,false,false,false,false,false,false,false,false,false] rfl rfl (any_of HT_.out (by kernel_rfl)) (fun _ _ _ h => h) (Or.inl ⟨by rfl, ?_⟩) ?_ ?_
                        rotate_left; (· intro w'; go_simp; with_reducible rfl); rotate_left; (· simp only [Act.put, q2af_1, q2af_2, q2af_3, i64_w, i32_w]; rfl)
                        refine pure_ (i := 5) (N := some 81) (v := ?_) (a' := ?_) #[true,true,true,true,true,true,false,false,false,false,false,false,false,false,false,false,false,false,false,false] rfl rfl (any_of HT_.out (by kernel_rfl)) (fun _ _ _ h => h) (Or.inl ⟨by rfl, ?_⟩) ?_ ?_
                        rotate_left; (· intro w'; go_simp; with_reducible rfl); rotate_left; (· simp only [Act.put, q2af_1, q2af_2, q2af_3, i64_w, i32_w]; rfl)
                        refine pure_ (i := 6) (N := some 82) (v := ?_) (a' := ?_) #[true,true,true,true,true,true,true,false,false,false,false,false,false,false,false,false,false,false,false,false] rfl rfl (any_of HT_.out (by kernel_rfl)) (fun _ _ _ h => h) (Or.inl ⟨by rfl, ?_⟩) ?_ ?_
                        rotate_left; (· intro w'; go_simp; with_reducible rfl); rotate_left; (· simp only [Act.put, q2af_1, q2af_2, q2af_3, i64_w, i32_w]; rfl)
                        refine pure_ (i := 7) (N := some 83) (v := ?_) (a' := ?_) #[true,true,true,true,true,true,true,true,false,false,false,false,false,false,false,false,false,false,false,false] rfl rfl (any_of HT_.out (by kernel_rfl)) (fun _ _ _ h => h) (Or.inl ⟨by rfl, ?_⟩) ?_ ?_
                        rotate_left; (· intro w'; go_simp; with_reducible rfl); rotate_left; (· simp only [Act.put, q2af_1, q2af_2, q2af_3, i64_w, i32_w]; rfl)
                        refine pure_ (i := 8) (N := some 84) (v := ?_) (a' := ?_) #[true,true,true,true,true,true,true,true,true,false,false,false,false,false,false,false,false,false,false,false] rfl rfl (any_of HT_.out (by kernel_rfl)) (fun _ _ _ h => h) (Or.inl ⟨by rfl, ?_⟩) ?_ ?_
                        rotate_left; (· intro w'; go_simp; with_reducible rfl); rotate_left; (· simp only [Act.put, q2af_1, q2af_2, q2af_3, i64_w, i32_w]; rfl)
                        refine pure_ (i := 9) (N := some 85) (v := undef) (a' := ?_) #[true,true,true,true,true,true,true,true,true,true,false,false,false,false,false,false,false,false,false,false] rfl rfl (any_of HT_.out (by kernel_rfl)) (fun _ _ _ h => h) (Or.inr ⟨by rfl, rfl⟩) ?_ ?_
                        rotate_left
                        ·
                         simp only [Act.put, q2af_1, q2af_2, q2af_3, i64_w, i32_w]
                         rfl
                        refine pure_ (i := 10) (N := some 86) (v := undef) (a' := ?_) #[true,true,true,true,true,true,true,true,true,true,true,false,false,false,false,false,false,false,false,false] rfl rfl (any_of HT_.out (by kernel_rfl)) (fun _ _ _ h => h) (Or.inr ⟨by rfl, rfl⟩) ?_ ?_
                        rotate_left
                        ·
                         simp only [Act.put, q2af_1, q2af_2, q2af_3, i64_w, i32_w]
                         rfl
                        refine pure_ (i := 11) (N := some 87) (v := undef) (a' := ?_) #[true,true,true,true,true,true,true,true,true,true,true,true,false,false,false,false,false,false,false,false] rfl rfl (any_of HT_.out (by kernel_rfl)) (fun _ _ _ h => h) (Or.inr ⟨by rfl, rfl⟩) ?_ ?_
                        rotate_left
                        ·
                         simp only [Act.put, q2af_1, q2af_2, q2af_3, i64_w, i32_w]
                         rfl
                        refine pure_ (i := 12) (N := some 88) (v := undef) (a' := ?_) #[true,true,true,true,true,true,true,true,true,true,true,true,true,false,false,false,false,false,false,false] rfl rfl (any_of HT_.out (by kernel_rfl)) (fun _ _ _ h => h) (Or.inr ⟨by rfl, rfl⟩) ?_ ?_
                        rotate_left
                        ·
                         simp only [Act.put, q2af_1, q2af_2, q2af_3, i64_w, i32_w]
                         rfl
                        refine pure_ (i := 13) (N := some 89) (v := undef) (a' := ?_) #[true,true,true,true,true,true,true,true,true,true,true,true,true,true,false,false,false,false,false,false] rfl rfl (any_of HT_.out (by kernel_rfl)) (fun _ _ _ h => h) (Or.inr ⟨by rfl, rfl⟩) ?_ ?_
                        rotate_left
                        ·
                         simp only [Act.put, q2af_1, q2af_2, q2af_3, i64_w, i32_w]
                         rfl
                        refine pure_ (i := 14) (N := some 90) (v := undef) (a' := ?_) #[true,true,true,true,true,true,true,true,true,true,true,true,true,true,true,false,false,false,false,false] rfl rfl (any_of HT_.out (by kernel_rfl)) (fun _ _ _ h => h) (Or.inr ⟨by rfl, rfl⟩) ?_ ?_
                        rotate_left
                        ·
                         simp only [Act.put, q2af_1, q2af_2, q2af_3, i64_w, i32_w]
                         rfl
                        refine pure_ (i := 15) (N := some 91) (v := undef) (a' := ?_) #[true,true,true,true,true,true,true,true,true,true,true,true,true,true,true,true,false,false,false,false] rfl rfl (any_of HT_.out (by kernel_rfl)) (fun _ _ _ h => h) (Or.inr ⟨by rfl, rfl⟩) ?_ ?_
                        rotate_left
                        ·
                         simp only [Act.put, q2af_1, q2af_2, q2af_3, i64_w, i32_w]
                         rfl
                        refine pure_ (i := 16) (N := some 92) (v := undef) (a' := ?_) #[true,true,true,true,true,true,true,true,true,true,true,true,true,true,true,true,true,false,false,false] rfl rfl (any_of HT_.out (by kernel_rfl)) (fun _ _ _ h => h) (Or.inr ⟨by rfl, rfl⟩) ?_ ?_
                        rotate_left
                        ·
                         simp only [Act.put, q2af_1, q2af_2, q2af_3, i64_w, i32_w]
                         rfl
                        refine pure_ (i := 17) (N := some 93) (v := undef) (a' := ?_) #[true,true,true,true,true,true,true,true,true,true,true,true,true,true,true,true,true,true,false,false] rfl rfl (any_of HT_.out (by kernel_rfl)) (fun _ _ _ h => h) (Or.inr ⟨by rfl, rfl⟩) ?_ ?_
                        rotate_left
                        ·
                         simp only [Act.put, q2af_1, q2af_2, q2af_3, i64_w, i32_w]
                         rfl
                        refine pure_ (i := 18) (N := some 94) (v := ?_) (a' := ?_) #[true,true,true,true,true,true,true,true,true,true,true,true,true,true,true,true,true,true,true,false] rfl rfl (any_of HT_.out (by kernel_rfl)) (fun _ _ _ h => h) (Or.inl ⟨by rfl, ?_⟩) ?_ ?_
                        rotate_left; (· intro w'; go_simp; with_reducible rfl); rotate_left; (· simp only [Act.put, q2af_1, q2af_2, q2af_3, i64_w, i32_w]; rfl)
                        refine pure_ (i := 19) (N := some 95) (v := ?_) (a' := ?_) #[true,true,true,true,true,true,true,true,true,true,true,true,true,true,true,true,true,true,true,true] rfl rfl (any_of HT_.out (by kernel_rfl)) (fun _ _ _ h => h) (Or.inl ⟨by rfl, ?_⟩) ?_ ?_
                        rotate_left; (· intro w'; go_simp; with_reducible rfl); rotate_left; (· simp only [Act.put, q2af_1, q2af_2, q2af_3, i64_w, i32_w]; rfl)
                        refine done_ (done_of HT_.out (by kernel_rfl)) ?_
                        try go_wp2
                        (try simp only [← hl4_3])
                        go_roundg k3
                        case measure => have := HK1.out; have := HK2.out; have := HK3.out; omega
                        case rel => exact ⟨(y124), (y125), (x49_3), (wrap64 (x49_3 + 1)), (by first | rfl | simp), (by first | rfl | simp), H', ⟨by have := HK1.out; have := HK2.out; have := HK3.out; omega⟩, ⟨by (try simp only [hl4_3]); exact HO_4.out⟩, ⟨by (try simp only [hl4_3]); exact HO_5.out⟩, ⟨by (try simp only [hl4_3]); exact HO_6.out⟩, ⟨by (try simp only [hl4_3]); (with_reducible repeat (first | refine blk_drewN ?_ _ | refine blk_drew ?_ | refine blk_alloc ?_ _)); exact BK101.out⟩, ⟨by repeat (first | (with_reducible first | exact HB.out | apply below_alloc | apply pw_below_drewN | apply below_drew1 | refine below_set ?_ GE101.out) | exact HB.out)⟩⟩
                       ·
                        rw [if_neg c45] at H
                        have c45b0 : (x9_3 == (-1)) = false := beq_eq_false_iff_ne.mpr c45
                        have c45b1 : (x9_3 != (-1)) = true := bne_iff_ne.mpr c45
                        by_cases c51 : 0 ≤ x9_3
                        ·
                         rw [if_pos c51] at H
                         have c51b0 : decide (0 ≤ x9_3) = true := decide_eq_true c51
                         clear c51
                         by_cases c52 : x9_3 < (x5_3.length : Int)
                         ·
                          rw [if_pos c52] at H
                          have c52b0 : decide (x9_3 < (x5_3.length : Int)) = true := decide_eq_true c52
                          clear c52
                          by_cases c53 : (rd y125 x49_3) < (rd y125 x9_3)
                          ·
                           rw [if_pos c53] at H
                           have c53b0 : decide ((rd y125 x49_3) < (rd y125 x9_3)) = true := decide_eq_true c53
                           clear c53
                           have H' := Aside0.mk H
                           clear H
                           have p121 : 0 ≤ (x49_3 : Int) := of_decide_eq_true (by assumption)
                           have q121 : x49_3 < (l0_1.length : Int) := of_decide_eq_true (by assumption)
                           obtain ⟨ad121, e121, hx121_0⟩ := Kd.at_int HR0_1.out x49_3 p121 q121
                           cases e121
                           replace hx121_0 := (HB.out.cell (World.block_lt_of_cell? w _ hx121_0)).trans hx121_0
                           replace p121 := eq_true p121
                           replace q121 := eq_true q121
                           try go_wp2
                           have n0_ := Aside0.mk (Kd.R_drew HO_4.out)
                           have n1_ := Aside0.mk (Kd.R_drew HO_5.out)
                           have n2_ := Aside0.mk (Kd.R_drew HO_6.out)
                           have n3_ := Aside0.mk (blk_drew BK101.out)
                           have n4_ := Aside0.mk (below_drew1 HB.out)
                           clear HO_4
                           clear HO_5
                           clear HO_6
                           clear BK101
                           clear HB
                           have HO_4 := n0_
                           have HO_5 := n1_
                           have HO_6 := n2_
                           have BK101 := n3_
                           have HB := n4_
                           clear n0_ n1_ n2_ n3_ n4_
                           have p122 : 0 ≤ (x49_3 : Int) := of_decide_eq_true (by assumption)
                           have q122 : x49_3 < (l0_0.length : Int) := of_decide_eq_true (by assumption)
                           obtain ⟨ad122, e122, hx122_0⟩ := Kd.at_int HR0_0.out x49_3 p122 q122
                           have hw122_0 := hx122_0
                           cases e122
                           replace hx122_0 := (HB.out.cell (World.block_lt_of_cell? w _ hx122_0)).trans hx122_0
                           replace p122 := eq_true p122
                           replace q122 := eq_true q122
                           have p123 : 0 ≤ (x49_3 : Int) := of_decide_eq_true (by assumption)
                           have q123 : x49_3 < (l0_2.length : Int) := of_decide_eq_true (by assumption)
                           obtain ⟨ad123, e123, hx123_0⟩ := Kd.at_int HR0_2.out x49_3 p123 q123
                           have hw123_0 := hx123_0
                           cases e123
                           replace hx123_0 := (HB.out.cell (World.block_lt_of_cell? w _ hx123_0)).trans hx123_0
                           replace p123 := eq_true p123
                           replace q123 := eq_true q123
                           have p41 : 0 ≤ (x49_3 : Int) := of_decide_eq_true (by assumption)
                           have q41 : (x49_3 : Int) < ((x4_3.length : Int) : Int) := of_decide_eq_true (by assumption)
                           obtain ⟨go41, co41, eo41, gb41, gl41, cl41, HG41⟩ := Kd.R_form HO_4.out (by omega)
                           (first | cases eo41 | (injection eo41 with ea_ en_ ec_; (first | subst ea_ | (injection ea_ with ea_; subst ea_)); subst ec_; clear en_))
                           have GB41 := Aside0.mk gb41
                           have GG41 := Aside0.mk HG41
                           clear gb41 gl41 HG41
                           obtain ⟨hx41_0, hf41_0⟩ := Kd.R_celln 0 HO_4.out (x49_3 : Int) p41 q41
                           replace p41 := eq_true p41
                           replace q41 := eq_true q41
                           have HP55 := Kd.R_putn HO_4.out (x49_3 : Int) (rd l0_0 x49_3)
                           rw [← Ny124.out] at HP55
                           have HQ55 := Aside0.mk HP55
                           clear HP55
                           have p43 : 0 ≤ (x49_3 : Int) := of_decide_eq_true (by assumption)
                           have q43 : (x49_3 : Int) < ((x5_3.length : Int) : Int) := of_decide_eq_true (by assumption)
                           obtain ⟨go43, co43, eo43, gb43, gl43, cl43, HG43⟩ := Kd.R_form HO_5.out (by omega)
                           (first | cases eo43 | (injection eo43 with ea_ en_ ec_; (first | subst ea_ | (injection ea_ with ea_; subst ea_)); subst ec_; clear en_))
                           have GB43 := Aside0.mk gb43
                           have GG43 := Aside0.mk HG43
                           clear gb43 gl43 HG43
                           obtain ⟨hx43_0, hf43_0⟩ := Kd.R_celln 0 (Kd.R_far (p := ⟨go41, (x49_3 : Int).toNat, none⟩) (Kd.R_mono HO_5.out (fun k_ hk => (⟨hk, fun e_ => hk.1 (by rw [e_]; rfl)⟩ : _ ∧ k_ ≠ go41))) (fun _ hk => hk.2) (.int .i64 (rd l0_0 x49_3))) (x49_3 : Int) p43 q43
                           replace p43 := eq_true p43
                           replace q43 := eq_true q43
                           have HP56 := Kd.R_putn (Kd.R_far (p := ⟨go41, (x49_3 : Int).toNat, none⟩) (Kd.R_mono HO_5.out (fun k_ hk => (⟨hk, fun e_ => hk.1 (by rw [e_]; rfl)⟩ : _ ∧ k_ ≠ go41))) (fun _ hk => hk.2) (.int .i64 (rd l0_0 x49_3))) (x49_3 : Int) (wrap64 (x7_1 + (rd l0_2 x49_3)))
                           rw [← Ny125.out] at HP56
                           have HQ56 := Aside0.mk HP56
                           clear HP56
                           refine start_ (n := 20) (S := fun w' => w'.cell? ⟨gb101, 0, none⟩ = some (.slice (some ad122) l0_0.length c0_0) ∧ w'.cell? ⟨gb101, 1, none⟩ = some (.slice (some ad121) l0_1.length c0_1) ∧ w'.cell? ⟨gb101, 2, none⟩ = some (.slice (some ad123) l0_2.length c0_2) ∧ w'.cell? (ad122.add (x49_3).toNat) = some (.int .i64 (rd l0_0 x49_3)) ∧ w'.cell? (ad123.add (x49_3).toNat) = some (.int .i64 (rd l0_2 x49_3))) (ds := [17, 19]) #[false,false,false,false,false,false,false,false,false,false,false,false,false,false,false,false,false,false,false,false] (by kernel_rfl) rfl rfl ⟨(blk_cell BK101.out 0).trans rfl, (blk_cell BK101.out 1).trans rfl, (blk_cell BK101.out 2).trans rfl, ((HB.out.cell (World.block_lt_of_cell? w _ hw122_0)).trans hw122_0), ((HB.out.cell (World.block_lt_of_cell? w _ hw123_0)).trans hw123_0)⟩ (fun hHeld => ?_); refine with_tabW impl_Jobs_earliest.tab18 impl_Jobs_earliest.bits18 (fun HT_ HW_ => ?_)
                           generalize wr.drew = w54 at HO_4 HO_5 HO_6 BK101 HB GG41 GG43 HQ55 HQ56 hf41_0 hf43_0 hx122_0 hx123_0 hx41_0 hx43_0 hHeld ⊢
                           refine pure_ (i := 0) (N := some 58) (v := ?_) (a' := ?_) #[true,false,false,false,false,false,false,false,false,false,false,false,false,false,false,false,false,false,false,false] rfl rfl (any_of HT_.out (by kernel_rfl)) (fun _ _ _ h => h) (Or.inl ⟨by rfl, ?_⟩) ?_ ?_
                           rotate_left; (· intro w'; go_simp; with_reducible rfl); rotate_left; (· simp only [Act.put, q2af_1, q2af_2, q2af_3, i64_w, i32_w]; rfl)
                           refine pure_ (i := 1) (N := some 59) (v := ?_) (a' := ?_) #[true,true,false,false,false,false,false,false,false,false,false,false,false,false,false,false,false,false,false,false] rfl rfl (any_of HT_.out (by kernel_rfl)) (fun _ _ _ h => h) (Or.inl ⟨by rfl, ?_⟩) ?_ ?_
                           rotate_left; (· intro w'; go_simp; with_reducible rfl); rotate_left; (· simp only [Act.put, q2af_1, q2af_2, q2af_3, i64_w, i32_w]; rfl)
                           refine pure_ (i := 2) (N := some 60) (v := ?_) (a' := ?_) #[true,true,true,false,false,false,false,false,false,false,false,false,false,false,false,false,false,false,false,false] rfl rfl (any_of HT_.out (by kernel_rfl)) (fun _ _ _ h => h) (Or.inl ⟨by rfl, ?_⟩) ?_ ?_
                           rotate_left; (· intro w'; go_simp; with_reducible rfl); rotate_left; (· simp only [Act.put, q2af_1, q2af_2, q2af_3, i64_w, i32_w]; rfl)
                           refine pure_ (i := 3) (N := some 61) (v := ?_) (a' := ?_) #[true,true,true,true,false,false,false,false,false,false,false,false,false,false,false,false,false,false,false,false] rfl rfl (any_of HT_.out (by kernel_rfl)) (fun _ _ _ h => h) (Or.inl ⟨by rfl, ?_⟩) ?_ ?_
                           rotate_left; (· intro w'; go_simp; with_reducible rfl); rotate_left; (· simp only [Act.put, q2af_1, q2af_2, q2af_3, i64_w, i32_w]; rfl)
                           refine pure_ (i := 4) (N := some 62) (v := ?_) (a' := ?_) #[true,true,true,true,true,false,false,false,false,false,false,false,false,false,false,false,false,false,false,false] rfl rfl (any_of HT_.out (by kernel_rfl)) (fun _ _ _ h => h) (Or.inl ⟨by rfl, ?_⟩) ?_ ?_
                           rotate_left; (· intro w'; go_simp; with_reducible rfl); rotate_left; (· simp only [Act.put, q2af_1, q2af_2, q2af_3, i64_w, i32_w]; rfl)
                           refine pure_ (i := 6) (N := some 64) (v := ?_) (a' := ?_) #[true,true,true,true,true,false,true,false,false,false,false,false,false,false,false,false,false,false,false,false] rfl rfl (any_of HT_.out (by kernel_rfl)) (fun _ _ _ h => h) (Or.inl ⟨by rfl, ?_⟩) ?_ ?_
                           rotate_left; (· intro w'; go_simp; with_reducible rfl); rotate_left; (· simp only [Act.put, q2af_1, q2af_2, q2af_3, i64_w, i32_w]; rfl)
                           refine pure_ (i := 9) (N := some 67) (v := ?_) (a' := ?_) #[true,true,true,true,true,false,true,false,false,true,false,false,false,false,false,false,false,false,false,false] rfl rfl (any_of HT_.out (by kernel_rfl)) (fun _ _ _ h => h) (Or.inl ⟨by rfl, ?_⟩) ?_ ?_
                           rotate_left; (· intro w'; go_simp; with_reducible rfl); rotate_left; (· simp only [Act.put, q2af_1, q2af_2, q2af_3, i64_w, i32_w]; rfl)
                           refine pure_ (i := 10) (N := some 68) (v := ?_) (a' := ?_) #[true,true,true,true,true,false,true,false,false,true,true,false,false,false,false,false,false,false,false,false] rfl rfl (any_of HT_.out (by kernel_rfl)) (fun _ _ _ h => h) (Or.inl ⟨by rfl, ?_⟩) ?_ ?_
                           rotate_left; (· intro w'; go_simp; with_reducible rfl); rotate_left; (· simp only [Act.put, q2af_1, q2af_2, q2af_3, i64_w, i32_w]; rfl)
                           refine pure_ (i := 12) (N := some 70) (v := ?_) (a' := ?_) #[true,true,true,true,true,false,true,false,false,true,true,false,true,false,false,false,false,false,false,false] rfl rfl (any_of HT_.out (by kernel_rfl)) (fun _ _ _ h => h) (Or.inl ⟨by rfl, ?_⟩) ?_ ?_
                           rotate_left; (· intro w'; go_simp; with_reducible rfl); rotate_left; (· simp only [Act.put, q2af_1, q2af_2, q2af_3, i64_w, i32_w]; rfl)
                           refine take_ (i := 5) (N := some 63) (v := ?_) (a' := ?_) #[true,true,true,true,true,true,true,false,false,true,true,false,true,false,false,false,false,false,false,false] rfl rfl (take_ofW HT_.out HW_.out (by kernel_rfl)) (fun _ _ _ h => h) (Or.inl ⟨by rfl, ?_⟩) hHeld ?_ ?_
                           rotate_left; (· rintro w' ⟨s0, s1, s2, s3, s4⟩; go_simp; with_reducible rfl); rotate_left; (· simp only [Act.put, q2af_1, q2af_2, q2af_3, i64_w, i32_w]; rfl)
                           refine pure_ (i := 7) (N := some 65) (v := ?_) (a' := ?_) #[true,true,true,true,true,true,true,true,false,true,true,false,true,false,false,false,false,false,false,false] rfl rfl (any_of HT_.out (by kernel_rfl)) (fun _ _ _ h => h) (Or.inl ⟨by rfl, ?_⟩) ?_ ?_
                           rotate_left; (· intro w'; go_simp; with_reducible rfl); rotate_left; (· simp only [Act.put, q2af_1, q2af_2, q2af_3, i64_w, i32_w]; rfl)
                           refine take_ (i := 8) (N := some 66) (v := ?_) (a' := ?_) #[true,true,true,true,true,true,true,true,true,true,true,false,true,false,false,false,false,false,false,false] rfl rfl (take_ofW HT_.out HW_.out (by kernel_rfl)) (fun _ _ _ h => h) (Or.inl ⟨by rfl, ?_⟩) hHeld ?_ ?_
                           rotate_left; (· rintro w' ⟨s0, s1, s2, s3, s4⟩; go_simp; with_reducible rfl); rotate_left; (· simp only [Act.put, q2af_1, q2af_2, q2af_3, i64_w, i32_w]; rfl)
                           refine take_ (i := 11) (N := some 69) (v := ?_) (a' := ?_) #[true,true,true,true,true,true,true,true,true,true,true,true,true,false,false,false,false,false,false,false] rfl rfl (take_ofW HT_.out HW_.out (by kernel_rfl)) (fun _ _ _ h => h) (Or.inl ⟨by rfl, ?_⟩) hHeld ?_ ?_
                           rotate_left; (· rintro w' ⟨s0, s1, s2, s3, s4⟩; go_simp; with_reducible rfl); rotate_left; (· simp only [Act.put, q2af_1, q2af_2, q2af_3, i64_w, i32_w]; rfl)
                           refine pure_ (i := 13) (N := some 71) (v := ?_) (a' := ?_) #[true,true,true,true,true,true,true,true,true,true,true,true,true,true,false,false,false,false,false,false] rfl rfl (any_of HT_.out (by kernel_rfl)) (fun _ _ _ h => h) (Or.inl ⟨by rfl, ?_⟩) ?_ ?_
                           rotate_left; (· intro w'; go_simp; with_reducible rfl); rotate_left; (· simp only [Act.put, q2af_1, q2af_2, q2af_3, i64_w, i32_w]; rfl)
                           refine take_ (i := 14) (N := some 72) (v := ?_) (a' := ?_) #[true,true,true,true,true,true,true,true,true,true,true,true,true,true,true,false,false,false,false,false] rfl rfl (take_ofW HT_.out HW_.out (by kernel_rfl)) (fun _ _ _ h => h) (Or.inl ⟨by rfl, ?_⟩) hHeld ?_ ?_
                           rotate_left; (· rintro w' ⟨s0, s1, s2, s3, s4⟩; go_simp; with_reducible rfl); rotate_left; (· simp only [Act.put, q2af_1, q2af_2, q2af_3, i64_w, i32_w]; rfl)
                           refine pure_ (i := 15) (N := some 73) (v := ?_) (a' := ?_) #[true,true,true,true,true,true,true,true,true,true,true,true,true,true,true,true,false,false,false,false] rfl rfl (any_of HT_.out (by kernel_rfl)) (fun _ _ _ h => h) (Or.inl ⟨by rfl, ?_⟩) ?_ ?_
                           rotate_left; (· intro w'; go_simp; with_reducible rfl); rotate_left; (· simp only [Act.put, q2af_1, q2af_2, q2af_3, i64_w, i32_w]; rfl)
                           refine pure_ (i := 16) (N := some 74) (v := ?_) (a' := ?_) #[true,true,true,true,true,true,true,true,true,true,true,true,true,true,true,true,true,false,false,false] rfl rfl (any_of HT_.out (by kernel_rfl)) (fun _ _ _ h => h) (Or.inl ⟨by rfl, ?_⟩) ?_ ?_
                           rotate_left; (· intro w'; go_simp; with_reducible rfl); rotate_left; (· simp only [Act.put, q2af_1, q2af_2, q2af_3, i64_w, i32_w]; rfl)
                           refine last_ (i := 17) (N := none) #[true,true,true,true,true,true,true,true,true,true,true,true,true,true,true,true,true,true,false,false] rfl rfl (one_of HT_.out (by kernel_rfl)) (by decide) (fun K hK => ?_)
                           refine skip_ (w1 := ?_) (by rfl) rfl ?_ ?_
                           rotate_left
                           ·
                            go_simp
                            rfl
                           refine hK.out _ _ ?_
                           clear hK K
                           refine pure_ (i := 18) (N := some 75) (v := ?_) (a' := ?_) #[true,true,true,true,true,true,true,true,true,true,true,true,true,true,true,true,true,true,true,false] rfl rfl (any_of HT_.out (by kernel_rfl)) (fun _ _ _ h => h) (Or.inl ⟨by rfl, ?_⟩) ?_ ?_
                           rotate_left; (· intro w'; go_simp; with_reducible rfl); rotate_left; (· simp only [Act.put, q2af_1, q2af_2, q2af_3, i64_w, i32_w]; rfl)
                           refine last_ (i := 19) (N := none) #[true,true,true,true,true,true,true,true,true,true,true,true,true,true,true,true,true,true,true,true] rfl rfl (one_of HT_.out (by kernel_rfl)) (by decide) (fun K hK => ?_)
                           refine skip_ (w1 := ?_) (by rfl) rfl ?_ ?_
                           rotate_left
                           ·
                            go_simp
                            rfl
                           refine hK.out _ _ ?_
                           clear hK K
                           refine done_ (done_of HT_.out (by kernel_rfl)) ?_
                           try go_wp2
                           have n0_ : Aside0 (Kd.R (Kd.int .i64) 2 ((w54.setCell ⟨go41, (x49_3 : Int).toNat, none⟩ (.int .i64 (rd l0_0 x49_3))).setCell ⟨go43, (x49_3 : Int).toNat, none⟩ (.int .i64 (wrap64 (x7_1 + (rd l0_2 x49_3))))) w.heap.size (fun k_ => some k_ ≠ (.slice (some ⟨go43, 0, none⟩) x5_3.length co43 : Value).ownBlock ∧ some k_ ≠ (u6 : Value).ownBlock) (.slice (some ⟨go41, 0, none⟩) x4_3.length co17) y124) := ⟨by exact Kd.R_mono (Kd.R_far (p := ⟨go43, (x49_3 : Int).toNat, none⟩) (Kd.R_mono HQ55.out (fun k_ hk => (⟨hk, fun e_ => hk.1 (by rw [e_]; rfl)⟩ : _ ∧ k_ ≠ go43))) (fun _ hk => hk.2) (.int .i64 (wrap64 (x7_1 + (rd l0_2 x49_3))))) (fun _ hk => ⟨hk.1.1, hk.1.2⟩)⟩
                           have n1_ : Aside0 (Kd.R (Kd.int .i64) 2 ((w54.setCell ⟨go41, (x49_3 : Int).toNat, none⟩ (.int .i64 (rd l0_0 x49_3))).setCell ⟨go43, (x49_3 : Int).toNat, none⟩ (.int .i64 (wrap64 (x7_1 + (rd l0_2 x49_3))))) w.heap.size (fun k_ => some k_ ≠ (.slice (some ⟨go41, 0, none⟩) x4_3.length co17 : Value).ownBlock ∧ some k_ ≠ (u6 : Value).ownBlock) (.slice (some ⟨go43, 0, none⟩) x5_3.length co43) y125) := ⟨by exact Kd.R_mono HQ56.out (fun _ hk => ⟨hk.1.1, hk.1.2⟩)⟩
                           have n2_ : Aside0 (Kd.R (Kd.int .i64) 2 ((w54.setCell ⟨go41, (x49_3 : Int).toNat, none⟩ (.int .i64 (rd l0_0 x49_3))).setCell ⟨go43, (x49_3 : Int).toNat, none⟩ (.int .i64 (wrap64 (x7_1 + (rd l0_2 x49_3))))) w.heap.size (fun k_ => some k_ ≠ (.slice (some ⟨go41, 0, none⟩) x4_3.length co17 : Value).ownBlock ∧ some k_ ≠ (.slice (some ⟨go43, 0, none⟩) x5_3.length co43 : Value).ownBlock) u6 x6_1) := ⟨by exact Kd.R_mono (Kd.R_far (p := ⟨go43, (x49_3 : Int).toNat, none⟩) (Kd.R_far (p := ⟨go41, (x49_3 : Int).toNat, none⟩) (Kd.R_mono (Kd.R_mono HO_6.out (fun k_ hk => (⟨hk, fun e_ => hk.1 (by rw [e_]; rfl)⟩ : _ ∧ k_ ≠ go41))) (fun k_ hk => (⟨hk, fun e_ => hk.1.2 (by rw [e_]; rfl)⟩ : _ ∧ k_ ≠ go43))) (fun _ hk => hk.1.2) (.int .i64 (rd l0_0 x49_3))) (fun _ hk => hk.2) (.int .i64 (wrap64 (x7_1 + (rd l0_2 x49_3))))) (fun _ hk => ⟨hk.1.1.1, hk.1.1.2⟩)⟩
                           have n3_ : Aside0 (((w54.setCell ⟨go41, (x49_3 : Int).toNat, none⟩ (.int .i64 (rd l0_0 x49_3))).setCell ⟨go43, (x49_3 : Int).toNat, none⟩ (.int .i64 (wrap64 (x7_1 + (rd l0_2 x49_3))))).heap[gb101]? = some (.cells #[.slice (some ad122) l0_0.length c0_0, .slice (some ad121) l0_1.length c0_1, .slice (some ad123) l0_2.length c0_2] 32 (0, 0))) := ⟨by (with_reducible repeat (first | refine blk_drewN ?_ _ | refine blk_drew ?_ | refine blk_alloc ?_ _)); refine blk_far ?_ (by have h_ := Kd.R_ne HO_5.out BK101.out (by decide); intro e_; exact h_ (by rw [e_]; rfl)) _; (with_reducible repeat (first | refine blk_drewN ?_ _ | refine blk_drew ?_ | refine blk_alloc ?_ _)); refine blk_far ?_ (by have h_ := Kd.R_ne HO_4.out BK101.out (by decide); intro e_; exact h_ (by rw [e_]; rfl)) _; (with_reducible repeat (first | refine blk_drewN ?_ _ | refine blk_drew ?_ | refine blk_alloc ?_ _)); exact BK101.out⟩
                           have n4_ : Aside0 (Below w.heap.size w ((w54.setCell ⟨go41, (x49_3 : Int).toNat, none⟩ (.int .i64 (rd l0_0 x49_3))).setCell ⟨go43, (x49_3 : Int).toNat, none⟩ (.int .i64 (wrap64 (x7_1 + (rd l0_2 x49_3)))))) := ⟨by repeat (first | (with_reducible first | exact HB.out | apply below_alloc | apply pw_below_drewN | apply below_drew1 | refine below_set ?_ GB41.out | refine below_set ?_ GB43.out | refine below_set ?_ GE101.out) | exact HB.out)⟩
                           (try clear HO_4)
                           (try clear HO_5)
                           (try clear HO_6)
                           (try clear BK101)
                           (try clear HB)
                           generalize ((w54.setCell ⟨go41, (x49_3 : Int).toNat, none⟩ (.int .i64 (rd l0_0 x49_3))).setCell ⟨go43, (x49_3 : Int).toNat, none⟩ (.int .i64 (wrap64 (x7_1 + (rd l0_2 x49_3))))) = w57 at n0_ n1_ n2_ n3_ n4_ ⊢
                           have HO_4 := n0_
                           have HO_5 := n1_
                           have HO_6 := n2_
                           have BK101 := n3_
                           have HB := n4_
                           clear n0_ n1_ n2_ n3_ n4_
                           have n0_ := Aside0.mk (Kd.R_drew HO_4.out)
                           have n1_ := Aside0.mk (Kd.R_drew HO_5.out)
                           have n2_ := Aside0.mk (Kd.R_drew HO_6.out)
                           have n3_ := Aside0.mk (blk_drew BK101.out)
                           have n4_ := Aside0.mk (below_drew1 HB.out)
                           clear HO_4
                           clear HO_5
                           clear HO_6
                           clear BK101
                           clear HB
                           have HO_4 := n0_
                           have HO_5 := n1_
                           have HO_6 := n2_
                           have BK101 := n3_
                           have HB := n4_
                           clear n0_ n1_ n2_ n3_ n4_
                           have p126 : 0 ≤ (x49_3 : Int) := of_decide_eq_true (by assumption)
                           have q126 : x49_3 < (y124.length : Int) := (by have h_ : (x49_3 : Int) < ((x4_3.length : Int) : Int) := of_decide_eq_true (by assumption); first | (have e_ := (Kd.R_reads' HO_4.out).1; omega) | simpa only [Ny124.out, List.length_set] using h_)
                           have ql126 : ((x49_3 : Int) < ((x4_3.length : Int) : Int)) = True := eq_true (of_decide_eq_true (by assumption))
                           obtain ⟨ad126, e126, hx126_0⟩ := Kd.at_int (Kd.R_reads' HO_4.out).2.2 x49_3 p126 q126
                           obtain rfl : (⟨go41, 0, none⟩ : Addr) = ad126 := (by injection e126)
                           (first | simp only [add_plain] at hx126_0 | simp only [add_at] at hx126_0 | simp only [Addr.add, Nat.zero_add] at hx126_0 | skip)
                           replace p126 := eq_true p126
                           replace q126 := eq_true q126
                           have p127 : 0 ≤ (x49_3 : Int) := of_decide_eq_true (by assumption)
                           have q127 : x49_3 < (y125.length : Int) := (by have h_ : (x49_3 : Int) < ((x5_3.length : Int) : Int) := of_decide_eq_true (by assumption); first | (have e_ := (Kd.R_reads' HO_5.out).1; omega) | simpa only [Ny125.out, List.length_set] using h_)
                           have ql127 : ((x49_3 : Int) < ((x5_3.length : Int) : Int)) = True := eq_true (of_decide_eq_true (by assumption))
                           obtain ⟨ad127, e127, hx127_0⟩ := Kd.at_int (Kd.R_reads' HO_5.out).2.2 x49_3 p127 q127
                           obtain rfl : (⟨go43, 0, none⟩ : Addr) = ad127 := (by injection e127)
                           (first | simp only [add_plain] at hx127_0 | simp only [add_at] at hx127_0 | simp only [Addr.add, Nat.zero_add] at hx127_0 | skip)
                           replace p127 := eq_true p127
                           replace q127 := eq_true q127
                           have p128 : 0 ≤ (x9_3 : Int) := of_decide_eq_true (by assumption)
                           have q128 : x9_3 < (y125.length : Int) := (by have h_ : (x9_3 : Int) < ((x5_3.length : Int) : Int) := of_decide_eq_true (by assumption); first | (have e_ := (Kd.R_reads' HO_5.out).1; omega) | simpa only [Ny125.out, List.length_set] using h_)
                           have ql128 : ((x9_3 : Int) < ((x5_3.length : Int) : Int)) = True := eq_true (of_decide_eq_true (by assumption))
                           obtain ⟨ad128, e128, hx128_0⟩ := Kd.at_int (Kd.R_reads' HO_5.out).2.2 x9_3 p128 q128
                           obtain rfl : (⟨go43, 0, none⟩ : Addr) = ad128 := (by injection e128)
                           (first | simp only [add_plain] at hx128_0 | simp only [add_at] at hx128_0 | simp only [Addr.add, Nat.zero_add] at hx128_0 | skip)
                           replace p128 := eq_true p128
                           replace q128 := eq_true q128
                           refine start_ (n := 20) (S := fun w' => w'.cell? ⟨go41, (x49_3).toNat, none⟩ = some (.int .i64 (rd y124 x49_3)) ∧ w'.cell? ⟨go43, (x49_3).toNat, none⟩ = some (.int .i64 (rd y125 x49_3)) ∧ w'.cell? ⟨go43, (x9_3).toNat, none⟩ = some (.int .i64 (rd y125 x9_3))) (ds := []) #[false,false,false,false,false,false,false,false,false,false,false,false,false,false,false,false,false,false,false,false] (by kernel_rfl) rfl rfl ⟨hx126_0, hx127_0, hx128_0⟩ (fun hHeld => ?_); refine with_tabW impl_Jobs_earliest.tab19 impl_Jobs_earliest.bits19 (fun HT_ HW_ => ?_)
                           generalize w57.drew = w58 at HO_4 HO_5 HO_6 BK101 HB HQ55 HQ56 hx126_0 hx127_0 hx128_0 hHeld ⊢
                           refine pure_ (i := 0) (N := some 76) (v := ?_) (a' := ?_) #[true,false,false,false,false,false,false,false,false,false,false,false,false,false,false,false,false,false,false,false] rfl rfl (any_of HT_.out (by kernel_rfl)) (fun _ _ _ h => h) (Or.inl ⟨by rfl, ?_⟩) ?_ ?_
                           rotate_left; (· intro w'; go_simp; with_reducible rfl); rotate_left; (· simp only [Act.put, q2af_1, q2af_2, q2af_3, i64_w, i32_w]; rfl)
                           refine pure_ (i := 1) (N := some 77) (v := ?_) (a' := ?_) #[true,true,false,false,false,false,false,false,false,false,false,false,false,false,false,false,false,false,false,false] rfl rfl (any_of HT_.out (by kernel_rfl)) (fun _ _ _ h => h) (Or.inl ⟨by rfl, ?_⟩) ?_ ?_
                           rotate_left; (· intro w'; go_simp; with_reducible rfl); rotate_left; (· simp only [Act.put, q2af_1, q2af_2, q2af_3, i64_w, i32_w]; rfl)
                           refine pure_ (i := 2) (N := some 78) (v := ?_) (a' := ?_) #[true,true,true,false,false,false,false,false,false,false,false,false,false,false,false,false,false,false,false,false] rfl rfl (any_of HT_.out (by kernel_rfl)) (fun _ _ _ h => h) (Or.inl ⟨by rfl, ?_⟩) ?_ ?_
                           rotate_left; (· intro w'; go_simp; with_reducible rfl); rotate_left; (· simp only [Act.put, q2af_1, q2af_2, q2af_3, i64_w, i32_w]; rfl)
                           refine take_ (i := 3) (N := some 79) (v := ?_) (a' := ?_) #[true,true,true,true,false,false,false,false,false,false,false,false,false,false,false,false,false,false,false,false] rfl rfl (take_ofW HT_.out HW_.out (by kernel_rfl)) (fun _ _ _ h => h) (Or.inl ⟨by rfl, ?_⟩) hHeld ?_ ?_
                           rotate_left; (· rintro w' ⟨s0, s1, s2⟩; go_simp; with_reducible rfl); rotate_left; (· simp only [Act.put, q2af_1, q2af_2, q2af_3, i64_w, i32_w]; rfl)
                           refine pure_ (i := 4) (N := some 80) (v := ?_) (a' := ?_) #[true,true,true,true,true,false,false,false,false,false,false,false,false,false,false,false,false,false,false,false] rfl rfl (any_of HT_.out (by kernel_rfl)) (fun _ _ _ h => h) (Or.inl ⟨by rfl, ?_⟩) ?_ ?_
                           rotate_left; (· intro w'; go_simp; with_reducible rfl); rotate_left; (· simp only [Act.put, q2af_1, q2af_2, q2af_3, i64_w, i32_w]; rfl)
                           refine pure_ (i := 5) (N := some 81) (v := ?_) (a' := ?_) #[true,true,true,true,true,true,false,false,false,false,false,false,false,false,false,false,false,false,false,false] rfl rfl (any_of HT_.out (by kernel_rfl)) (fun _ _ _ h => h) (Or.inl ⟨by rfl, ?_⟩) ?_ ?_
                           rotate_left; (· intro w'; go_simp; with_reducible rfl); rotate_left; (· simp only [Act.put, q2af_1, q2af_2, q2af_3, i64_w, i32_w]; rfl)
                           refine pure_ (i := 6) (N := some 82) (v := ?_) (a' := ?_) #[true,true,true,true,true,true,true,false,false,false,false,false,false,false,false,false,false,false,false,false] rfl rfl (any_of HT_.out (by kernel_rfl)) (fun _ _ _ h => h) (Or.inl ⟨by rfl, ?_⟩) ?_ ?_
                           rotate_left; (· intro w'; go_simp; with_reducible rfl); rotate_left; (· simp only [Act.put, q2af_1, q2af_2, q2af_3, i64_w, i32_w]; rfl)
                           refine pure_ (i := 7) (N := some 83) (v := ?_) (a' := ?_) #[true,true,true,true,true,true,true,true,false,false,false,false,false,false,false,false,false,false,false,false] rfl rfl (any_of HT_.out (by kernel_rfl)) (fun _ _ _ h => h) (Or.inl ⟨by rfl, ?_⟩) ?_ ?_
                           rotate_left; (· intro w'; go_simp; with_reducible rfl); rotate_left; (· simp only [Act.put, q2af_1, q2af_2, q2af_3, i64_w, i32_w]; rfl)
                           refine pure_ (i := 8) (N := some 84) (v := ?_) (a' := ?_) #[true,true,true,true,true,true,true,true,true,false,false,false,false,false,false,false,false,false,false,false] rfl rfl (any_of HT_.out (by kernel_rfl)) (fun _ _ _ h => h) (Or.inl ⟨by rfl, ?_⟩) ?_ ?_
                           rotate_left; (· intro w'; go_simp; with_reducible rfl); rotate_left; (· simp only [Act.put, q2af_1, q2af_2, q2af_3, i64_w, i32_w]; rfl)
                           refine pure_ (i := 9) (N := some 85) (v := ?_) (a' := ?_) #[true,true,true,true,true,true,true,true,true,true,false,false,false,false,false,false,false,false,false,false] rfl rfl (any_of HT_.out (by kernel_rfl)) (fun _ _ _ h => h) (Or.inl ⟨by rfl, ?_⟩) ?_ ?_
                           rotate_left; (· intro w'; go_simp; with_reducible rfl); rotate_left; (· simp only [Act.put, q2af_1, q2af_2, q2af_3, i64_w, i32_w]; rfl)
                           refine pure_ (i := 10) (N := some 86) (v := ?_) (a' := ?_) #[true,true,true,true,true,true,true,true,true,true,true,false,false,false,false,false,false,false,false,false] rfl rfl (any_of HT_.out (by kernel_rfl)) (fun _ _ _ h => h) (Or.inl ⟨by rfl, ?_⟩) ?_ ?_
                           rotate_left; (· intro w'; go_simp; with_reducible rfl); rotate_left; (· simp only [Act.put, q2af_1, q2af_2, q2af_3, i64_w, i32_w]; rfl)
                           refine pure_ (i := 11) (N := some 87) (v := ?_) (a' := ?_) #[true,true,true,true,true,true,true,true,true,true,true,true,false,false,false,false,false,false,false,false] rfl rfl (any_of HT_.out (by kernel_rfl)) (fun _ _ _ h => h) (Or.inl ⟨by rfl, ?_⟩) ?_ ?_
                           rotate_left; (· intro w'; go_simp; with_reducible rfl); rotate_left; (· simp only [Act.put, q2af_1, q2af_2, q2af_3, i64_w, i32_w]; rfl)
                           refine pure_ (i := 13) (N := some 89) (v := ?_) (a' := ?_) #[true,true,true,true,true,true,true,true,true,true,true,true,false,true,false,false,false,false,false,false] rfl rfl (any_of HT_.out (by kernel_rfl)) (fun _ _ _ h => h) (Or.inl ⟨by rfl, ?_⟩) ?_ ?_
                           rotate_left; (· intro w'; go_simp; with_reducible rfl); rotate_left; (· simp only [Act.put, q2af_1, q2af_2, q2af_3, i64_w, i32_w]; rfl)
                           refine pure_ (i := 14) (N := some 90) (v := ?_) (a' := ?_) #[true,true,true,true,true,true,true,true,true,true,true,true,false,true,true,false,false,false,false,false] rfl rfl (any_of HT_.out (by kernel_rfl)) (fun _ _ _ h => h) (Or.inl ⟨by rfl, ?_⟩) ?_ ?_
                           rotate_left; (· intro w'; go_simp; with_reducible rfl); rotate_left; (· simp only [Act.put, q2af_1, q2af_2, q2af_3, i64_w, i32_w]; rfl)
                           refine pure_ (i := 15) (N := some 91) (v := ?_) (a' := ?_) #[true,true,true,true,true,true,true,true,true,true,true,true,false,true,true,true,false,false,false,false] rfl rfl (any_of HT_.out (by kernel_rfl)) (fun _ _ _ h => h) (Or.inl ⟨by rfl, ?_⟩) ?_ ?_
                           rotate_left; (· intro w'; go_simp; with_reducible rfl); rotate_left; (· simp only [Act.put, q2af_1, q2af_2, q2af_3, i64_w, i32_w]; rfl)
                           refine take_ (i := 12) (N := some 88) (v := ?_) (a' := ?_) #[true,true,true,true,true,true,true,true,true,true,true,true,true,true,true,true,false,false,false,false] rfl rfl (take_ofW HT_.out HW_.out (by kernel_rfl)) (fun _ _ _ h => h) (Or.inl ⟨by rfl, ?_⟩) hHeld ?_ ?_
                           rotate_left; (· rintro w' ⟨s0, s1, s2⟩; go_simp; with_reducible rfl); rotate_left; (· simp only [Act.put, q2af_1, q2af_2, q2af_3, i64_w, i32_w]; rfl)
                           refine take_ (i := 16) (N := some 92) (v := ?_) (a' := ?_) #[true,true,true,true,true,true,true,true,true,true,true,true,true,true,true,true,true,false,false,false] rfl rfl (take_ofW HT_.out HW_.out (by kernel_rfl)) (fun _ _ _ h => h) (Or.inl ⟨by rfl, ?_⟩) hHeld ?_ ?_
                           rotate_left; (· rintro w' ⟨s0, s1, s2⟩; go_simp; with_reducible rfl); rotate_left; (· simp only [Act.put, q2af_1, q2af_2, q2af_3, i64_w, i32_w]; rfl)
                           refine pure_ (i := 17) (N := some 93) (v := ?_) (a' := ?_) #[true,true,true,true,true,true,true,true,true,true,true,true,true,true,true,true,true,true,false,false] rfl rfl (any_of HT_.out (by kernel_rfl)) (fun _ _ _ h => h) (Or.inl ⟨by rfl, ?_⟩) ?_ ?_
                           rotate_left; (· intro w'; go_simp; with_reducible rfl); rotate_left; (· simp only [Act.put, q2af_1, q2af_2, q2af_3, i64_w, i32_w]; rfl)
                           refine pure_ (i := 18) (N := some 94) (v := ?_) (a' := ?_) #[true,true,true,true,true,true,true,true,true,true,true,true,true,true,true,true,true,true,true,false] rfl rfl (any_of HT_.out (by kernel_rfl)) (fun _ _ _ h => h) (Or.inl ⟨by rfl, ?_⟩) ?_ ?_
                           rotate_left; (· intro w'; go_simp; with_reducible rfl); rotate_left; (· simp only [Act.put, q2af_1, q2af_2, q2af_3, i64_w, i32_w]; rfl)
                           refine pure_ (i := 19) (N := some 95) (v := ?_) (a' := ?_) #[true,true,true,true,true,true,true,true,true,true,true,true,true,true,true,true,true,true,true,true] rfl rfl (any_of HT_.out (by kernel_rfl)) (fun _ _ _ h => h) (Or.inl ⟨by rfl, ?_⟩) ?_ ?_
                           rotate_left; (· intro w'; go_simp; with_reducible rfl); rotate_left; (· simp only [Act.put, q2af_1, q2af_2, q2af_3, i64_w, i32_w]; rfl)
                           refine done_ (done_of HT_.out (by kernel_rfl)) ?_
                           try go_wp2
                           (try simp only [← hl4_3])
                           go_roundg k3
                           case measure => have := HK1.out; have := HK2.out; have := HK3.out; omega
                           case rel => exact ⟨(y124), (y125), (x49_3), (wrap64 (x49_3 + 1)), (by first | rfl | simp), (by first | rfl | simp), H', ⟨by have := HK1.out; have := HK2.out; have := HK3.out; omega⟩, ⟨by (try simp only [hl4_3]); exact HO_4.out⟩, ⟨by (try simp only [hl4_3]); exact HO_5.out⟩, ⟨by (try simp only [hl4_3]); exact HO_6.out⟩, ⟨by (try simp only [hl4_3]); (with_reducible repeat (first | refine blk_drewN ?_ _ | refine blk_drew ?_ | refine blk_alloc ?_ _)); exact BK101.out⟩, ⟨by repeat (first | (with_reducible first | exact HB.out | apply below_alloc | apply pw_below_drewN | apply below_drew1 | refine below_set ?_ GE101.out) | exact HB.out)⟩⟩
                          ·
                           rw [if_neg c53] at H
                           have c53b0 : decide ((rd y125 x49_3) < (rd y125 x9_3)) = false := decide_eq_false c53
                           clear c53
                           have H' := Aside0.mk H
                           clear H
                           have p121 : 0 ≤ (x49_3 : Int) := of_decide_eq_true (by assumption)
                           have q121 : x49_3 < (l0_1.length : Int) := of_decide_eq_true (by assumption)
                           obtain ⟨ad121, e121, hx121_0⟩ := Kd.at_int HR0_1.out x49_3 p121 q121
                           cases e121
                           replace hx121_0 := (HB.out.cell (World.block_lt_of_cell? w _ hx121_0)).trans hx121_0
                           replace p121 := eq_true p121
                           replace q121 := eq_true q121
                           try go_wp2
                           have n0_ := Aside0.mk (Kd.R_drew HO_4.out)
                           have n1_ := Aside0.mk (Kd.R_drew HO_5.out)
                           have n2_ := Aside0.mk (Kd.R_drew HO_6.out)
                           have n3_ := Aside0.mk (blk_drew BK101.out)
                           have n4_ := Aside0.mk (below_drew1 HB.out)
                           clear HO_4
                           clear HO_5
                           clear HO_6
                           clear BK101
                           clear HB
                           have HO_4 := n0_
                           have HO_5 := n1_
                           have HO_6 := n2_
                           have BK101 := n3_
                           have HB := n4_
                           clear n0_ n1_ n2_ n3_ n4_
                           have p122 : 0 ≤ (x49_3 : Int) := of_decide_eq_true (by assumption)
                           have q122 : x49_3 < (l0_0.length : Int) := of_decide_eq_true (by assumption)
                           obtain ⟨ad122, e122, hx122_0⟩ := Kd.at_int HR0_0.out x49_3 p122 q122
                           have hw122_0 := hx122_0
                           cases e122
                           replace hx122_0 := (HB.out.cell (World.block_lt_of_cell? w _ hx122_0)).trans hx122_0
                           replace p122 := eq_true p122
                           replace q122 := eq_true q122
                           have p123 : 0 ≤ (x49_3 : Int) := of_decide_eq_true (by assumption)
                           have q123 : x49_3 < (l0_2.length : Int) := of_decide_eq_true (by assumption)
                           obtain ⟨ad123, e123, hx123_0⟩ := Kd.at_int HR0_2.out x49_3 p123 q123
                           have hw123_0 := hx123_0
                           cases e123
                           replace hx123_0 := (HB.out.cell (World.block_lt_of_cell? w _ hx123_0)).trans hx123_0
                           replace p123 := eq_true p123
                           replace q123 := eq_true q123
                           have p41 : 0 ≤ (x49_3 : Int) := of_decide_eq_true (by assumption)
                           have q41 : (x49_3 : Int) < ((x4_3.length : Int) : Int) := of_decide_eq_true (by assumption)
                           obtain ⟨go41, co41, eo41, gb41, gl41, cl41, HG41⟩ := Kd.R_form HO_4.out (by omega)
                           (first | cases eo41 | (injection eo41 with ea_ en_ ec_; (first | subst ea_ | (injection ea_ with ea_; subst ea_)); subst ec_; clear en_))
                           have GB41 := Aside0.mk gb41
                           have GG41 := Aside0.mk HG41
                           clear gb41 gl41 HG41
                           obtain ⟨hx41_0, hf41_0⟩ := Kd.R_celln 0 HO_4.out (x49_3 : Int) p41 q41
                           replace p41 := eq_true p41
                           replace q41 := eq_true q41
                           have HP60 := Kd.R_putn HO_4.out (x49_3 : Int) (rd l0_0 x49_3)
                           rw [← Ny124.out] at HP60
                           have HQ60 := Aside0.mk HP60
                           clear HP60
                           have p43 : 0 ≤ (x49_3 : Int) := of_decide_eq_true (by assumption)
                           have q43 : (x49_3 : Int) < ((x5_3.length : Int) : Int) := of_decide_eq_true (by assumption)
                           obtain ⟨go43, co43, eo43, gb43, gl43, cl43, HG43⟩ := Kd.R_form HO_5.out (by omega)
                           (first | cases eo43 | (injection eo43 with ea_ en_ ec_; (first | subst ea_ | (injection ea_ with ea_; subst ea_)); subst ec_; clear en_))
                           have GB43 := Aside0.mk gb43
                           have GG43 := Aside0.mk HG43
                           clear gb43 gl43 HG43
                           obtain ⟨hx43_0, hf43_0⟩ := Kd.R_celln 0 (Kd.R_far (p := ⟨go41, (x49_3 : Int).toNat, none⟩) (Kd.R_mono HO_5.out (fun k_ hk => (⟨hk, fun e_ => hk.1 (by rw [e_]; rfl)⟩ : _ ∧ k_ ≠ go41))) (fun _ hk => hk.2) (.int .i64 (rd l0_0 x49_3))) (x49_3 : Int) p43 q43
                           replace p43 := eq_true p43
                           replace q43 := eq_true q43
                           have HP61 := Kd.R_putn (Kd.R_far (p := ⟨go41, (x49_3 : Int).toNat, none⟩) (Kd.R_mono HO_5.out (fun k_ hk => (⟨hk, fun e_ => hk.1 (by rw [e_]; rfl)⟩ : _ ∧ k_ ≠ go41))) (fun _ hk => hk.2) (.int .i64 (rd l0_0 x49_3))) (x49_3 : Int) (wrap64 (x7_1 + (rd l0_2 x49_3)))
                           rw [← Ny125.out] at HP61
                           have HQ61 := Aside0.mk HP61
                           clear HP61
                           refine start_ (n := 20) (S := fun w' => w'.cell? ⟨gb101, 0, none⟩ = some (.slice (some ad122) l0_0.length c0_0) ∧ w'.cell? ⟨gb101, 1, none⟩ = some (.slice (some ad121) l0_1.length c0_1) ∧ w'.cell? ⟨gb101, 2, none⟩ = some (.slice (some ad123) l0_2.length c0_2) ∧ w'.cell? (ad122.add (x49_3).toNat) = some (.int .i64 (rd l0_0 x49_3)) ∧ w'.cell? (ad123.add (x49_3).toNat) = some (.int .i64 (rd l0_2 x49_3))) (ds := [17, 19]) #[false,false,false,false,false,false,false,false,false,false,false,false,false,false,false,false,false,false,false,false] (by kernel_rfl) rfl rfl ⟨(blk_cell BK101.out 0).trans rfl, (blk_cell BK101.out 1).trans rfl, (blk_cell BK101.out 2).trans rfl, ((HB.out.cell (World.block_lt_of_cell? w _ hw122_0)).trans hw122_0), ((HB.out.cell (World.block_lt_of_cell? w _ hw123_0)).trans hw123_0)⟩ (fun hHeld => ?_); refine with_tabW impl_Jobs_earliest.tab18 impl_Jobs_earliest.bits18 (fun HT_ HW_ => ?_)
                           generalize wr.drew = w59 at HO_4 HO_5 HO_6 BK101 HB GG41 GG43 HQ60 HQ61 hf41_0 hf43_0 hx122_0 hx123_0 hx41_0 hx43_0 hHeld ⊢
                           refine pure_ (i := 0) (N := some 58) (v := ?_) (a' := ?_) #[true,false,false,false,false,false,false,false,false,false,false,false,false,false,false,false,false,false,false,false] rfl rfl (any_of HT_.out (by kernel_rfl)) (fun _ _ _ h => h) (Or.inl ⟨by rfl, ?_⟩) ?_ ?_
                           rotate_left; (· intro w'; go_simp; with_reducible rfl); rotate_left; (· simp only [Act.put, q2af_1, q2af_2, q2af_3, i64_w, i32_w]; rfl)
                           refine pure_ (i := 1) (N := some 59) (v := ?_) (a' := ?_) #[true,true,false,false,false,false,false,false,false,false,false,false,false,false,false,false,false,false,false,false] rfl rfl (any_of HT_.out (by kernel_rfl)) (fun _ _ _ h => h) (Or.inl ⟨by rfl, ?_⟩) ?_ ?_
                           rotate_left; (· intro w'; go_simp; with_reducible rfl); rotate_left; (· simp only [Act.put, q2af_1, q2af_2, q2af_3, i64_w, i32_w]; rfl)
                           refine pure_ (i := 2) (N := some 60) (v := ?_) (a' := ?_) #[true,true,true,false,false,false,false,false,false,false,false,false,false,false,false,false,false,false,false,false] rfl rfl (any_of HT_.out (by kernel_rfl)) (fun _ _ _ h => h) (Or.inl ⟨by rfl, ?_⟩) ?_ ?_
                           rotate_left; (· intro w'; go_simp; with_reducible rfl); rotate_left; (· simp only [Act.put, q2af_1, q2af_2, q2af_3, i64_w, i32_w]; rfl)
                           refine pure_ (i := 3) (N := some 61) (v := ?_) (a' := ?_) #[true,true,true,true,false,false,false,false,false,false,false,false,false,false,false,false,false,false,false,false] rfl rfl (any_of HT_.out (by kernel_rfl)) (fun _ _ _ h => h) (Or.inl ⟨by rfl, ?_⟩) ?_ ?_
                           rotate_left; (· intro w'; go_simp; with_reducible rfl); rotate_left; (· simp only [Act.put, q2af_1, q2af_2, q2af_3, i64_w, i32_w]; rfl)
                           refine pure_ (i := 4) (N := some 62) (v := ?_) (a' := ?_) #[true,true,true,true,true,false,false,false,false,false,false,false,false,false,false,false,false,false,false,false] rfl rfl (any_of HT_.out (by kernel_rfl)) (fun _ _ _ h => h) (Or.inl ⟨by rfl, ?_⟩) ?_ ?_
                           rotate_left; (· intro w'; go_simp; with_reducible rfl); rotate_left; (· simp only [Act.put, q2af_1, q2af_2, q2af_3, i64_w, i32_w]; rfl)
                           refine pure_ (i := 6) (N := some 64) (v := ?_) (a' := ?_) #[true,true,true,true,true,false,true,false,false,false,false,false,false,false,false,false,false,false,false,false] rfl rfl (any_of HT_.out (by kernel_rfl)) (fun _ _ _ h => h) (Or.inl ⟨by rfl, ?_⟩) ?_ ?_
                           rotate_left; (· intro w'; go_simp; with_reducible rfl); rotate_left; (· simp only [Act.put, q2af_1, q2af_2, q2af_3, i64_w, i32_w]; rfl)
                           refine pure_ (i := 9) (N := some 67) (v := ?_) (a' := ?_) #[true,true,true,true,true,false,true,false,false,true,false,false,false,false,false,false,false,false,false,false] rfl rfl (any_of HT_.out (by kernel_rfl)) (fun _ _ _ h => h) (Or.inl ⟨by rfl, ?_⟩) ?_ ?_
                           rotate_left; (· intro w'; go_simp; with_reducible rfl); rotate_left; (· simp only [Act.put, q2af_1, q2af_2, q2af_3, i64_w, i32_w]; rfl)
                           refine pure_ (i := 10) (N := some 68) (v := ?_) (a' := ?_) #[true,true,true,true,true,false,true,false,false,true,true,false,false,false,false,false,false,false,false,false] rfl rfl (any_of HT_.out (by kernel_rfl)) (fun _ _ _ h => h) (Or.inl ⟨by rfl, ?_⟩) ?_ ?_
                           rotate_left; (· intro w'; go_simp; with_reducible rfl); rotate_left; (· simp only [Act.put, q2af_1, q2af_2, q2af_3, i64_w, i32_w]; rfl)
                           refine pure_ (i := 12) (N := some 70) (v := ?_) (a' := ?_) #[true,true,true,true,true,false,true,false,false,true,true,false,true,false,false,false,false,false,false,false] rfl rfl (any_of HT_.out (by kernel_rfl)) (fun _ _ _ h => h) (Or.inl ⟨by rfl, ?_⟩) ?_ ?_
                           rotate_left; (· intro w'; go_simp; with_reducible rfl); rotate_left; (· simp only [Act.put, q2af_1, q2af_2, q2af_3, i64_w, i32_w]; rfl)
                           refine take_ (i := 5) (N := some 63) (v := ?_) (a' := ?_) #[true,true,true,true,true,true,true,false,false,true,true,false,true,false,false,false,false,false,false,false] rfl rfl (take_ofW HT_.out HW_.out (by kernel_rfl)) (fun _ _ _ h => h) (Or.inl ⟨by rfl, ?_⟩) hHeld ?_ ?_
                           rotate_left; (· rintro w' ⟨s0, s1, s2, s3, s4⟩; go_simp; with_reducible rfl); rotate_left; (· simp only [Act.put, q2af_1, q2af_2, q2af_3, i64_w, i32_w]; rfl)
                           refine pure_ (i := 7) (N := some 65) (v := ?_) (a' := ?_) #[true,true,true,true,true,true,true,true,false,true,true,false,true,false,false,false,false,false,false,false] rfl rfl (any_of HT_.out (by kernel_rfl)) (fun _ _ _ h => h) (Or.inl ⟨by rfl, ?_⟩) ?_ ?_
                           rotate_left; (· intro w'; go_simp; with_reducible rfl); rotate_left; (· simp only [Act.put, q2af_1, q2af_2, q2af_3, i64_w, i32_w]; rfl)
                           refine take_ (i := 8) (N := some 66) (v := ?_) (a' := ?_) #[true,true,true,true,true,true,true,true,true,true,true,false,true,false,false,false,false,false,false,false] rfl rfl (take_ofW HT_.out HW_.out (by kernel_rfl)) (fun _ _ _ h => h) (Or.inl ⟨by rfl, ?_⟩) hHeld ?_ ?_
                           rotate_left; (· rintro w' ⟨s0, s1, s2, s3, s4⟩; go_simp; with_reducible rfl); rotate_left; (· simp only [Act.put, q2af_1, q2af_2, q2af_3, i64_w, i32_w]; rfl)
                           refine take_ (i := 11) (N := some 69) (v := ?_) (a' := ?_) #[true,true,true,true,true,true,true,true,true,true,true,true,true,false,false,false,false,false,false,false] rfl rfl (take_ofW HT_.out HW_.out (by kernel_rfl)) (fun _ _ _ h => h) (Or.inl ⟨by rfl, ?_⟩) hHeld ?_ ?_
                           rotate_left; (· rintro w' ⟨s0, s1, s2, s3, s4⟩; go_simp; with_reducible rfl); rotate_left; (· simp only [Act.put, q2af_1, q2af_2, q2af_3, i64_w, i32_w]; rfl)
                           refine pure_ (i := 13) (N := some 71) (v := ?_) (a' := ?_) #[true,true,true,true,true,true,true,true,true,true,true,true,true,true,false,false,false,false,false,false] rfl rfl (any_of HT_.out (by kernel_rfl)) (fun _ _ _ h => h) (Or.inl ⟨by rfl, ?_⟩) ?_ ?_
                           rotate_left; (· intro w'; go_simp; with_reducible rfl); rotate_left; (· simp only [Act.put, q2af_1, q2af_2, q2af_3, i64_w, i32_w]; rfl)
                           refine take_ (i := 14) (N := some 72) (v := ?_) (a' := ?_) #[true,true,true,true,true,true,true,true,true,true,true,true,true,true,true,false,false,false,false,false] rfl rfl (take_ofW HT_.out HW_.out (by kernel_rfl)) (fun _ _ _ h => h) (Or.inl ⟨by rfl, ?_⟩) hHeld ?_ ?_
                           rotate_left; (· rintro w' ⟨s0, s1, s2, s3, s4⟩; go_simp; with_reducible rfl); rotate_left; (· simp only [Act.put, q2af_1, q2af_2, q2af_3, i64_w, i32_w]; rfl)
                           refine pure_ (i := 15) (N := some 73) (v := ?_) (a' := ?_) #[true,true,true,true,true,true,true,true,true,true,true,true,true,true,true,true,false,false,false,false] rfl rfl (any_of HT_.out (by kernel_rfl)) (fun _ _ _ h => h) (Or.inl ⟨by rfl, ?_⟩) ?_ ?_
                           rotate_left; (· intro w'; go_simp; with_reducible rfl); rotate_left; (· simp only [Act.put, q2af_1, q2af_2, q2af_3, i64_w, i32_w]; rfl)
                           refine pure_ (i := 16) (N := some 74) (v := ?_) (a' := ?_) #[true,true,true,true,true,true,true,true,true,true,true,true,true,true,true,true,true,false,false,false] rfl rfl (any_of HT_.out (by kernel_rfl)) (fun _ _ _ h => h) (Or.inl ⟨by rfl, ?_⟩) ?_ ?_
                           rotate_left; (· intro w'; go_simp; with_reducible rfl); rotate_left; (· simp only [Act.put, q2af_1, q2af_2, q2af_3, i64_w, i32_w]; rfl)
                           refine last_ (i := 17) (N := none) #[true,true,true,true,true,true,true,true,true,true,true,true,true,true,true,true,true,true,false,false] rfl rfl (one_of HT_.out (by kernel_rfl)) (by decide) (fun K hK => ?_)
                           refine skip_ (w1 := ?_) (by rfl) rfl ?_ ?_
                           rotate_left
                           ·
                            go_simp
                            rfl
                           refine hK.out _ _ ?_
                           clear hK K
                           refine pure_ (i := 18) (N := some 75) (v := ?_) (a' := ?_) #[true,true,true,true,true,true,true,true,true,true,true,true,true,true,true,true,true,true,true,false] rfl rfl (any_of HT_.out (by kernel_rfl)) (fun _ _ _ h => h) (Or.inl ⟨by rfl, ?_⟩) ?_ ?_
                           rotate_left; (· intro w'; go_simp; with_reducible rfl); rotate_left; (· simp only [Act.put, q2af_1, q2af_2, q2af_3, i64_w, i32_w]; rfl)
                           refine last_ (i := 19) (N := none) #[true,true,true,true,true,true,true,true,true,true,true,true,true,true,true,true,true,true,true,true] rfl rfl (one_of HT_.out (by kernel_rfl)) (by decide) (fun K hK => ?_)
                           refine skip_ (w1 := ?_) (by rfl) rfl ?_ ?_
                           rotate_left
                           ·
                            go_simp
                            rfl
                           refine hK.out _ _ ?_
                           clear hK K
                           refine done_ (done_of HT_.out (by kernel_rfl)) ?_
                           try go_wp2
                           have n0_ : Aside0 (Kd.R (Kd.int .i64) 2 ((w59.setCell ⟨go41, (x49_3 : Int).toNat, none⟩ (.int .i64 (rd l0_0 x49_3))).setCell ⟨go43, (x49_3 : Int).toNat, none⟩ (.int .i64 (wrap64 (x7_1 + (rd l0_2 x49_3))))) w.heap.size (fun k_ => some k_ ≠ (.slice (some ⟨go43, 0, none⟩) x5_3.length co43 : Value).ownBlock ∧ some k_ ≠ (u6 : Value).ownBlock) (.slice (some ⟨go41, 0, none⟩) x4_3.length co17) y124) := ⟨by exact Kd.R_mono (Kd.R_far (p := ⟨go43, (x49_3 : Int).toNat, none⟩) (Kd.R_mono HQ60.out (fun k_ hk => (⟨hk, fun e_ => hk.1 (by rw [e_]; rfl)⟩ : _ ∧ k_ ≠ go43))) (fun _ hk => hk.2) (.int .i64 (wrap64 (x7_1 + (rd l0_2 x49_3))))) (fun _ hk => ⟨hk.1.1, hk.1.2⟩)⟩
                           have n1_ : Aside0 (Kd.R (Kd.int .i64) 2 ((w59.setCell ⟨go41, (x49_3 : Int).toNat, none⟩ (.int .i64 (rd l0_0 x49_3))).setCell ⟨go43, (x49_3 : Int).toNat, none⟩ (.int .i64 (wrap64 (x7_1 + (rd l0_2 x49_3))))) w.heap.size (fun k_ => some k_ ≠ (.slice (some ⟨go41, 0, none⟩) x4_3.length co17 : Value).ownBlock ∧ some k_ ≠ (u6 : Value).ownBlock) (.slice (some ⟨go43, 0, none⟩) x5_3.length co43) y125) := ⟨by exact Kd.R_mono HQ61.out (fun _ hk => ⟨hk.1.1, hk.1.2⟩)⟩
                           have n2_ : Aside0 (Kd.R (Kd.int .i64) 2 ((w59.setCell ⟨go41, (x49_3 : Int).toNat, none⟩ (.int .i64 (rd l0_0 x49_3))).setCell ⟨go43, (x49_3 : Int).toNat, none⟩ (.int .i64 (wrap64 (x7_1 + (rd l0_2 x49_3))))) w.heap.size (fun k_ => some k_ ≠ (.slice (some ⟨go41, 0, none⟩) x4_3.length co17 : Value).ownBlock ∧ some k_ ≠ (.slice (some ⟨go43, 0, none⟩) x5_3.length co43 : Value).ownBlock) u6 x6_1) := ⟨by exact Kd.R_mono (Kd.R_far (p := ⟨go43, (x49_3 : Int).toNat, none⟩) (Kd.R_far (p := ⟨go41, (x49_3 : Int).toNat, none⟩) (Kd.R_mono (Kd.R_mono HO_6.out (fun k_ hk => (⟨hk, fun e_ => hk.1 (by rw [e_]; rfl)⟩ : _ ∧ k_ ≠ go41))) (fun k_ hk => (⟨hk, fun e_ => hk.1.2 (by rw [e_]; rfl)⟩ : _ ∧ k_ ≠ go43))) (fun _ hk => hk.1.2) (.int .i64 (rd l0_0 x49_3))) (fun _ hk => hk.2) (.int .i64 (wrap64 (x7_1 + (rd l0_2 x49_3))))) (fun _ hk => ⟨hk.1.1.1, hk.1.1.2⟩)⟩
                           have n3_ : Aside0 (((w59.setCell ⟨go41, (x49_3 : Int).toNat, none⟩ (.int .i64 (rd l0_0 x49_3))).setCell ⟨go43, (x49_3 : Int).toNat, none⟩ (.int .i64 (wrap64 (x7_1 + (rd l0_2 x49_3))))).heap[gb101]? = some (.cells #[.slice (some ad122) l0_0.length c0_0, .slice (some ad121) l0_1.length c0_1, .slice (some ad123) l0_2.length c0_2] 32 (0, 0))) := ⟨by (with_reducible repeat (first | refine blk_drewN ?_ _ | refine blk_drew ?_ | refine blk_alloc ?_ _)); refine blk_far ?_ (by have h_ := Kd.R_ne HO_5.out BK101.out (by decide); intro e_; exact h_ (by rw [e_]; rfl)) _; (with_reducible repeat (first | refine blk_drewN ?_ _ | refine blk_drew ?_ | refine blk_alloc ?_ _)); refine blk_far ?_ (by have h_ := Kd.R_ne HO_4.out BK101.out (by decide); intro e_; exact h_ (by rw [e_]; rfl)) _; (with_reducible repeat (first | refine blk_drewN ?_ _ | refine blk_drew ?_ | refine blk_alloc ?_ _)); exact BK101.out⟩
                           have n4_ : Aside0 (Below w.heap.size w ((w59.setCell ⟨go41, (x49_3 : Int).toNat, none⟩ (.int .i64 (rd l0_0 x49_3))).setCell ⟨go43, (x49_3 : Int).toNat, none⟩ (.int .i64 (wrap64 (x7_1 + (rd l0_2 x49_3)))))) := ⟨by repeat (first | (with_reducible first | exact HB.out | apply below_alloc | apply pw_below_drewN | apply below_drew1 | refine below_set ?_ GB41.out | refine below_set ?_ GB43.out | refine below_set ?_ GE101.out) | exact HB.out)⟩
                           (try clear HO_4)
                           (try clear HO_5)
                           (try clear HO_6)
                           (try clear BK101)
                           (try clear HB)
                           generalize ((w59.setCell ⟨go41, (x49_3 : Int).toNat, none⟩ (.int .i64 (rd l0_0 x49_3))).setCell ⟨go43, (x49_3 : Int).toNat, none⟩ (.int .i64 (wrap64 (x7_1 + (rd l0_2 x49_3))))) = w62 at n0_ n1_ n2_ n3_ n4_ ⊢
                           have HO_4 := n0_
                           have HO_5 := n1_
                           have HO_6 := n2_
                           have BK101 := n3_
                           have HB := n4_
                           clear n0_ n1_ n2_ n3_ n4_
                           have n0_ := Aside0.mk (Kd.R_drew HO_4.out)
                           have n1_ := Aside0.mk (Kd.R_drew HO_5.out)
                           have n2_ := Aside0.mk (Kd.R_drew HO_6.out)
                           have n3_ := Aside0.mk (blk_drew BK101.out)
                           have n4_ := Aside0.mk (below_drew1 HB.out)
                           clear HO_4
                           clear HO_5
                           clear HO_6
                           clear BK101
                           clear HB
                           have HO_4 := n0_
                           have HO_5 := n1_
                           have HO_6 := n2_
                           have BK101 := n3_
                           have HB := n4_
                           clear n0_ n1_ n2_ n3_ n4_
                           have p126 : 0 ≤ (x49_3 : Int) := of_decide_eq_true (by assumption)
                           have q126 : x49_3 < (y124.length : Int) := (by have h_ : (x49_3 : Int) < ((x4_3.length : Int) : Int) := of_decide_eq_true (by assumption); first | (have e_ := (Kd.R_reads' HO_4.out).1; omega) | simpa only [Ny124.out, List.length_set] using h_)
                           have ql126 : ((x49_3 : Int) < ((x4_3.length : Int) : Int)) = True := eq_true (of_decide_eq_true (by assumption))
                           obtain ⟨ad126, e126, hx126_0⟩ := Kd.at_int (Kd.R_reads' HO_4.out).2.2 x49_3 p126 q126
                           obtain rfl : (⟨go41, 0, none⟩ : Addr) = ad126 := (by injection e126)
                           (first | simp only [add_plain] at hx126_0 | simp only [add_at] at hx126_0 | simp only [Addr.add, Nat.zero_add] at hx126_0 | skip)
                           replace p126 := eq_true p126
                           replace q126 := eq_true q126
                           have p127 : 0 ≤ (x49_3 : Int) := of_decide_eq_true (by assumption)
                           have q127 : x49_3 < (y125.length : Int) := (by have h_ : (x49_3 : Int) < ((x5_3.length : Int) : Int) := of_decide_eq_true (by assumption); first | (have e_ := (Kd.R_reads' HO_5.out).1; omega) | simpa only [Ny125.out, List.length_set] using h_)
                           have ql127 : ((x49_3 : Int) < ((x5_3.length : Int) : Int)) = True := eq_true (of_decide_eq_true (by assumption))
                           obtain ⟨ad127, e127, hx127_0⟩ := Kd.at_int (Kd.R_reads' HO_5.out).2.2 x49_3 p127 q127
                           obtain rfl : (⟨go43, 0, none⟩ : Addr) = ad127 := (by injection e127)
                           (first | simp only [add_plain] at hx127_0 | simp only [add_at] at hx127_0 | simp only [Addr.add, Nat.zero_add] at hx127_0 | skip)
                           replace p127 := eq_true p127
                           replace q127 := eq_true q127
                           have p128 : 0 ≤ (x9_3 : Int) := of_decide_eq_true (by assumption)
                           have q128 : x9_3 < (y125.length : Int) := (by have h_ : (x9_3 : Int) < ((x5_3.length : Int) : Int) := of_decide_eq_true (by assumption); first | (have e_ := (Kd.R_reads' HO_5.out).1; omega) | simpa only [Ny125.out, List.length_set] using h_)
                           have ql128 : ((x9_3 : Int) < ((x5_3.length : Int) : Int)) = True := eq_true (of_decide_eq_true (by assumption))
                           obtain ⟨ad128, e128, hx128_0⟩ := Kd.at_int (Kd.R_reads' HO_5.out).2.2 x9_3 p128 q128
                           obtain rfl : (⟨go43, 0, none⟩ : Addr) = ad128 := (by injection e128)
                           (first | simp only [add_plain] at hx128_0 | simp only [add_at] at hx128_0 | simp only [Addr.add, Nat.zero_add] at hx128_0 | skip)
                           replace p128 := eq_true p128
                           replace q128 := eq_true q128
                           refine start_ (n := 20) (S := fun w' => w'.cell? ⟨go41, (x49_3).toNat, none⟩ = some (.int .i64 (rd y124 x49_3)) ∧ w'.cell? ⟨go43, (x49_3).toNat, none⟩ = some (.int .i64 (rd y125 x49_3)) ∧ w'.cell? ⟨go43, (x9_3).toNat, none⟩ = some (.int .i64 (rd y125 x9_3))) (ds := []) #[false,false,false,false,false,false,false,false,false,false,false,false,false,false,false,false,false,false,false,false] (by kernel_rfl) rfl rfl ⟨hx126_0, hx127_0, hx128_0⟩ (fun hHeld => ?_); refine with_tabW impl_Jobs_earliest.tab19 impl_Jobs_earliest.bits19 (fun HT_ HW_ => ?_)
                           generalize w62.drew = w63 at HO_4 HO_5 HO_6 BK101 HB HQ60 HQ61 hx126_0 hx127_0 hx128_0 hHeld ⊢
                           refine pure_ (i := 0) (N := some 76) (v := ?_) (a' := ?_) #[true,false,false,false,false,false,false,false,false,false,false,false,false,false,false,false,false,false,false,false] rfl rfl (any_of HT_.out (by kernel_rfl)) (fun _ _ _ h => h) (Or.inl ⟨by rfl, ?_⟩) ?_ ?_
                           rotate_left; (· intro w'; go_simp; with_reducible rfl); rotate_left; (· simp only [Act.put, q2af_1, q2af_2, q2af_3, i64_w, i32_w]; rfl)
                           refine pure_ (i := 1) (N := some 77) (v := ?_) (a' := ?_) #[true,true,false,false,false,false,false,false,false,false,false,false,false,false,false,false,false,false,false,false] rfl rfl (any_of HT_.out (by kernel_rfl)) (fun _ _ _ h => h) (Or.inl ⟨by rfl, ?_⟩) ?_ ?_
                           rotate_left; (· intro w'; go_simp; with_reducible rfl); rotate_left; (· simp only [Act.put, q2af_1, q2af_2, q2af_3, i64_w, i32_w]; rfl)
                           refine pure_ (i := 2) (N := some 78) (v := ?_) (a' := ?_) #[true,true,true,false,false,false,false,false,false,false,false,false,false,false,false,false,false,false,false,false] rfl rfl (any_of HT_.out (by kernel_rfl)) (fun _ _ _ h => h) (Or.inl ⟨by rfl, ?_⟩) ?_ ?_
                           rotate_left; (· intro w'; go_simp; with_reducible rfl); rotate_left; (· simp only [Act.put, q2af_1, q2af_2, q2af_3, i64_w, i32_w]; rfl)
                           refine take_ (i := 3) (N := some 79) (v := ?_) (a' := ?_) #[true,true,true,true,false,false,false,false,false,false,false,false,false,false,false,false,false,false,false,false] rfl rfl (take_ofW HT_.out HW_.out (by kernel_rfl)) (fun _ _ _ h => h) (Or.inl ⟨by rfl, ?_⟩) hHeld ?_ ?_
                           rotate_left; (· rintro w' ⟨s0, s1, s2⟩; go_simp; with_reducible rfl); rotate_left; (· simp only [Act.put, q2af_1, q2af_2, q2af_3, i64_w, i32_w]; rfl)
                           refine pure_ (i := 4) (N := some 80) (v := ?_) (a' := ?_) #[true,true,true,true,true,false,false,false,false,false,false,false,false,false,false,false,false,false,false,false] rfl rfl (any_of HT_.out (by kernel_rfl)) (fun _ _ _ h => h) (Or.inl ⟨by rfl, ?_⟩) ?_ ?_
                           rotate_left; (· intro w'; go_simp; with_reducible rfl); rotate_left; (· simp only [Act.put, q2af_1, q2af_2, q2af_3, i64_w, i32_w]; rfl)
                           refine pure_ (i := 5) (N := some 81) (v := ?_) (a' := ?_) #[true,true,true,true,true,true,false,false,false,false,false,false,false,false,false,false,false,false,false,false] rfl rfl (any_of HT_.out (by kernel_rfl)) (fun _ _ _ h => h) (Or.inl ⟨by rfl, ?_⟩) ?_ ?_
                           rotate_left; (· intro w'; go_simp; with_reducible rfl); rotate_left; (· simp only [Act.put, q2af_1, q2af_2, q2af_3, i64_w, i32_w]; rfl)
                           refine pure_ (i := 6) (N := some 82) (v := ?_) (a' := ?_) #[true,true,true,true,true,true,true,false,false,false,false,false,false,false,false,false,false,false,false,false] rfl rfl (any_of HT_.out (by kernel_rfl)) (fun _ _ _ h => h) (Or.inl ⟨by rfl, ?_⟩) ?_ ?_
                           rotate_left; (· intro w'; go_simp; with_reducible rfl); rotate_left; (· simp only [Act.put, q2af_1, q2af_2, q2af_3, i64_w, i32_w]; rfl)
                           refine pure_ (i := 7) (N := some 83) (v := ?_) (a' := ?_) #[true,true,true,true,true,true,true,true,false,false,false,false,false,false,false,false,false,false,false,false] rfl rfl (any_of HT_.out (by kernel_rfl)) (fun _ _ _ h => h) (Or.inl ⟨by rfl, ?_⟩) ?_ ?_
                           rotate_left; (· intro w'; go_simp; with_reducible rfl); rotate_left; (· simp only [Act.put, q2af_1, q2af_2, q2af_3, i64_w, i32_w]; rfl)
                           refine pure_ (i := 8) (N := some 84) (v := ?_) (a' := ?_) #[true,true,true,true,true,true,true,true,true,false,false,false,false,false,false,false,false,false,false,false] rfl rfl (any_of HT_.out (by kernel_rfl)) (fun _ _ _ h => h) (Or.inl ⟨by rfl, ?_⟩) ?_ ?_
                           rotate_left; (· intro w'; go_simp; with_reducible rfl); rotate_left; (· simp only [Act.put, q2af_1, q2af_2, q2af_3, i64_w, i32_w]; rfl)
                           refine pure_ (i := 9) (N := some 85) (v := ?_) (a' := ?_) #[true,true,true,true,true,true,true,true,true,true,false,false,false,false,false,false,false,false,false,false] rfl rfl (any_of HT_.out (by kernel_rfl)) (fun _ _ _ h => h) (Or.inl ⟨by rfl, ?_⟩) ?_ ?_
                           rotate_left; (· intro w'; go_simp; with_reducible rfl); rotate_left; (· simp only [Act.put, q2af_1, q2af_2, q2af_3, i64_w, i32_w]; rfl)
                           refine pure_ (i := 10) (N := some 86) (v := ?_) (a' := ?_) #[true,true,true,true,true,true,true,true,true,true,true,false,false,false,false,false,false,false,false,false] rfl rfl (any_of HT_.out (by kernel_rfl)) (fun _ _ _ h => h) (Or.inl ⟨by rfl, ?_⟩) ?_ ?_
                           rotate_left; (· intro w'; go_simp; with_reducible rfl); rotate_left; (· simp only [Act.put, q2af_1, q2af_2, q2af_3, i64_w, i32_w]; rfl)
                           refine pure_ (i := 11) (N := some 87) (v := ?_) (a' := ?_) #[true,true,true,true,true,true,true,true,true,true,true,true,false,false,false,false,false,false,false,false] rfl rfl (any_of HT_.out (by kernel_rfl)) (fun _ _ _ h => h) (Or.inl ⟨by rfl, ?_⟩) ?_ ?_
                           rotate_left; (· intro w'; go_simp; with_reducible rfl); rotate_left; (· simp only [Act.put, q2af_1, q2af_2, q2af_3, i64_w, i32_w]; rfl)
                           refine pure_ (i := 13) (N := some 89) (v := ?_) (a' := ?_) #[true,true,true,true,true,true,true,true,true,true,true,true,false,true,false,false,false,false,false,false] rfl rfl (any_of HT_.out (by kernel_rfl)) (fun _ _ _ h => h) (Or.inl ⟨by rfl, ?_⟩) ?_ ?_
                           rotate_left; (· intro w'; go_simp; with_reducible rfl); rotate_left; (· simp only [Act.put, q2af_1, q2af_2, q2af_3, i64_w, i32_w]; rfl)
                           refine pure_ (i := 14) (N := some 90) (v := ?_) (a' := ?_) #[true,true,true,true,true,true,true,true,true,true,true,true,false,true,true,false,false,false,false,false] rfl rfl (any_of HT_.out (by kernel_rfl)) (fun _ _ _ h => h) (Or.inl ⟨by rfl, ?_⟩) ?_ ?_
                           rotate_left; (· intro w'; go_simp; with_reducible rfl); rotate_left; (· simp only [Act.put, q2af_1, q2af_2, q2af_3, i64_w, i32_w]; rfl)
                           refine pure_ (i := 15) (N := some 91) (v := ?_) (a' := ?_) #[true,true,true,true,true,true,true,true,true,true,true,true,false,true,true,true,false,false,false,false] rfl rfl (any_of HT_.out (by kernel_rfl)) (fun _ _ _ h => h) (Or.inl ⟨by rfl, ?_⟩) ?_ ?_
                           rotate_left; (· intro w'; go_simp; with_reducible rfl); rotate_left; (· simp only [Act.put, q2af_1, q2af_2, q2af_3, i64_w, i32_w]; rfl)
                           refine take_ (i := 12) (N := some 88) (v := ?_) (a' := ?_) #[true,true,true,true,true,true,true,true,true,true,true,true,true,true,true,true,false,false,false,false] rfl rfl (take_ofW HT_.out HW_.out (by kernel_rfl)) (fun _ _ _ h => h) (Or.inl ⟨by rfl, ?_⟩) hHeld ?_ ?_
                           rotate_left; (· rintro w' ⟨s0, s1, s2⟩; go_simp; with_reducible rfl); rotate_left; (· simp only [Act.put, q2af_1, q2af_2, q2af_3, i64_w, i32_w]; rfl)
                           refine take_ (i := 16) (N := some 92) (v := ?_) (a' := ?_) #[true,true,true,true,true,true,true,true,true,true,true,true,true,true,true,true,true,false,false,false] rfl rfl (take_ofW HT_.out HW_.out (by kernel_rfl)) (fun _ _ _ h => h) (Or.inl ⟨by rfl, ?_⟩) hHeld ?_ ?_
                           rotate_left; (· rintro w' ⟨s0, s1, s2⟩; go_simp; with_reducible rfl); rotate_left; (· simp only [Act.put, q2af_1, q2af_2, q2af_3, i64_w, i32_w]; rfl)
                           refine pure_ (i := 17) (N := some 93) (v := ?_) (a' := ?_) #[true,true,true,true,true,true,true,true,true,true,true,true,true,true,true,true,true,true,false,false] rfl rfl (any_of HT_.out (by kernel_rfl)) (fun _ _ _ h => h) (Or.inl ⟨by rfl, ?_⟩) ?_ ?_
                           rotate_left; (· intro w'; go_simp; with_reducible rfl); rotate_left; (· simp only [Act.put, q2af_1, q2af_2, q2af_3, i64_w, i32_w]; rfl)
                           refine pure_ (i := 18) (N := some 94) (v := ?_) (a' := ?_) #[true,true,true,true,true,true,true,true,true,true,true,true,true,true,true,true,true,true,true,false] rfl rfl (any_of HT_.out (by kernel_rfl)) (fun _ _ _ h => h) (Or.inl ⟨by rfl, ?_⟩) ?_ ?_
                           rotate_left; (· intro w'; go_simp; with_reducible rfl); rotate_left; (· simp only [Act.put, q2af_1, q2af_2, q2af_3, i64_w, i32_w]; rfl)
                           refine pure_ (i := 19) (N := some 95) (v := ?_) (a' := ?_) #[true,true,true,true,true,true,true,true,true,true,true,true,true,true,true,true,true,true,true,true] rfl rfl (any_of HT_.out (by kernel_rfl)) (fun _ _ _ h => h) (Or.inl ⟨by rfl, ?_⟩) ?_ ?_
                           rotate_left; (· intro w'; go_simp; with_reducible rfl); rotate_left; (· simp only [Act.put, q2af_1, q2af_2, q2af_3, i64_w, i32_w]; rfl)
                           refine done_ (done_of HT_.out (by kernel_rfl)) ?_
                           try go_wp2
                           (try simp only [← hl4_3])
                           go_roundg k3
                           case measure => have := HK1.out; have := HK2.out; have := HK3.out; omega
                           case rel => exact ⟨(y124), (y125), (x9_3), (wrap64 (x49_3 + 1)), (by first | rfl | simp), (by first | rfl | simp), H', ⟨by have := HK1.out; have := HK2.out; have := HK3.out; omega⟩, ⟨by (try simp only [hl4_3]); exact HO_4.out⟩, ⟨by (try simp only [hl4_3]); exact HO_5.out⟩, ⟨by (try simp only [hl4_3]); exact HO_6.out⟩, ⟨by (try simp only [hl4_3]); (with_reducible repeat (first | refine blk_drewN ?_ _ | refine blk_drew ?_ | refine blk_alloc ?_ _)); exact BK101.out⟩, ⟨by repeat (first | (with_reducible first | exact HB.out | apply below_alloc | apply pw_below_drewN | apply below_drew1 | refine below_set ?_ GE101.out) | exact HB.out)⟩⟩
                         ·
                          rw [if_neg c52] at H
                          exact absurd H (by simp)
                        ·
                         rw [if_neg c51] at H
                         exact absurd H (by simp)
                      ·
                       rw [if_neg c44] at H
                       have c44b0 : decide (0 < (rd y124 x49_3)) = false := decide_eq_false c44
                       clear c44
                       have H' := Aside0.mk H
                       clear H
                       have p121 : 0 ≤ (x49_3 : Int) := of_decide_eq_true (by assumption)
                       have q121 : x49_3 < (l0_1.length : Int) := of_decide_eq_true (by assumption)
                       obtain ⟨ad121, e121, hx121_0⟩ := Kd.at_int HR0_1.out x49_3 p121 q121
                       cases e121
                       replace hx121_0 := (HB.out.cell (World.block_lt_of_cell? w _ hx121_0)).trans hx121_0
                       replace p121 := eq_true p121
                       replace q121 := eq_true q121
                       try go_wp2
                       have n0_ := Aside0.mk (Kd.R_drew HO_4.out)
                       have n1_ := Aside0.mk (Kd.R_drew HO_5.out)
                       have n2_ := Aside0.mk (Kd.R_drew HO_6.out)
                       have n3_ := Aside0.mk (blk_drew BK101.out)
                       have n4_ := Aside0.mk (below_drew1 HB.out)
                       clear HO_4
                       clear HO_5
                       clear HO_6
                       clear BK101
                       clear HB
                       have HO_4 := n0_
                       have HO_5 := n1_
                       have HO_6 := n2_
                       have BK101 := n3_
                       have HB := n4_
                       clear n0_ n1_ n2_ n3_ n4_
                       have p122 : 0 ≤ (x49_3 : Int) := of_decide_eq_true (by assumption)
                       have q122 : x49_3 < (l0_0.length : Int) := of_decide_eq_true (by assumption)
                       obtain ⟨ad122, e122, hx122_0⟩ := Kd.at_int HR0_0.out x49_3 p122 q122
                       have hw122_0 := hx122_0
                       cases e122
                       replace hx122_0 := (HB.out.cell (World.block_lt_of_cell? w _ hx122_0)).trans hx122_0
                       replace p122 := eq_true p122
                       replace q122 := eq_true q122
                       have p123 : 0 ≤ (x49_3 : Int) := of_decide_eq_true (by assumption)
                       have q123 : x49_3 < (l0_2.length : Int) := of_decide_eq_true (by assumption)
                       obtain ⟨ad123, e123, hx123_0⟩ := Kd.at_int HR0_2.out x49_3 p123 q123
                       have hw123_0 := hx123_0
                       cases e123
                       replace hx123_0 := (HB.out.cell (World.block_lt_of_cell? w _ hx123_0)).trans hx123_0
                       replace p123 := eq_true p123
                       replace q123 := eq_true q123
                       have p41 : 0 ≤ (x49_3 : Int) := of_decide_eq_true (by assumption)
                       have q41 : (x49_3 : Int) < ((x4_3.length : Int) : Int) := of_decide_eq_true (by assumption)
                       obtain ⟨go41, co41, eo41, gb41, gl41, cl41, HG41⟩ := Kd.R_form HO_4.out (by omega)
                       (first | cases eo41 | (injection eo41 with ea_ en_ ec_; (first | subst ea_ | (injection ea_ with ea_; subst ea_)); subst ec_; clear en_))
                       have GB41 := Aside0.mk gb41
                       have GG41 := Aside0.mk HG41
                       clear gb41 gl41 HG41
                       obtain ⟨hx41_0, hf41_0⟩ := Kd.R_celln 0 HO_4.out (x49_3 : Int) p41 q41
                       replace p41 := eq_true p41
                       replace q41 := eq_true q41
                       have HP65 := Kd.R_putn HO_4.out (x49_3 : Int) (rd l0_0 x49_3)
                       rw [← Ny124.out] at HP65
                       have HQ65 := Aside0.mk HP65
                       clear HP65
                       have p43 : 0 ≤ (x49_3 : Int) := of_decide_eq_true (by assumption)
                       have q43 : (x49_3 : Int) < ((x5_3.length : Int) : Int) := of_decide_eq_true (by assumption)
                       obtain ⟨go43, co43, eo43, gb43, gl43, cl43, HG43⟩ := Kd.R_form HO_5.out (by omega)
                       (first | cases eo43 | (injection eo43 with ea_ en_ ec_; (first | subst ea_ | (injection ea_ with ea_; subst ea_)); subst ec_; clear en_))
                       have GB43 := Aside0.mk gb43
                       have GG43 := Aside0.mk HG43
                       clear gb43 gl43 HG43
                       obtain ⟨hx43_0, hf43_0⟩ := Kd.R_celln 0 (Kd.R_far (p := ⟨go41, (x49_3 : Int).toNat, none⟩) (Kd.R_mono HO_5.out (fun k_ hk => (⟨hk, fun e_ => hk.1 (by rw [e_]; rfl)⟩ : _ ∧ k_ ≠ go41))) (fun _ hk => hk.2) (.int .i64 (rd l0_0 x49_3))) (x49_3 : Int) p43 q43
                       replace p43 := eq_true p43
                       replace q43 := eq_true q43
                       have HP66 := Kd.R_putn (Kd.R_far (p := ⟨go41, (x49_3 : Int).toNat, none⟩) (Kd.R_mono HO_5.out (fun k_ hk => (⟨hk, fun e_ => hk.1 (by rw [e_]; rfl)⟩ : _ ∧ k_ ≠ go41))) (fun _ hk => hk.2) (.int .i64 (rd l0_0 x49_3))) (x49_3 : Int) (wrap64 (x7_1 + (rd l0_2 x49_3)))
                       rw [← Ny125.out] at HP66
                       have HQ66 := Aside0.mk HP66
                       clear HP66
                       refine start_ (n := 20) (S := fun w' => w'.cell? ⟨gb101, 0, none⟩ = some (.slice (some ad122) l0_0.length c0_0) ∧ w'.cell? ⟨gb101, 1, none⟩ = some (.slice (some ad121) l0_1.length c0_1) ∧ w'.cell? ⟨gb101, 2, none⟩ = some (.slice (some ad123) l0_2.length c0_2) ∧ w'.cell? (ad122.add (x49_3).toNat) = some (.int .i64 (rd l0_0 x49_3)) ∧ w'.cell? (ad123.add (x49_3).toNat) = some (.int .i64 (rd l0_2 x49_3))) (ds := [17, 19]) #[false,false,false,false,false,false,false,false,false,false,false,false,false,false,false,false,false,false,false,false] (by kernel_rfl) rfl rfl ⟨(blk_cell BK101.out 0).trans rfl, (blk_cell BK101.out 1).trans rfl, (blk_cell BK101.out 2).trans rfl, ((HB.out.cell (World.block_lt_of_cell? w _ hw122_0)).trans hw122_0), ((HB.out.cell (World.block_lt_of_cell? w _ hw123_0)).trans hw123_0)⟩ (fun hHeld => ?_); refine with_tabW impl_Jobs_earliest.tab18 impl_Jobs_earliest.bits18 (fun HT_ HW_ => ?_)
                       generalize wr.drew = w64 at HO_4 HO_5 HO_6 BK101 HB GG41 GG43 HQ65 HQ66 hf41_0 hf43_0 hx122_0 hx123_0 hx41_0 hx43_0 hHeld ⊢
                       refine pure_ (i := 0) (N := some 58) (v := ?_) (a' := ?_) #[true,false,false,false,false,false,false,false,false,false,false,false,false,false,false,false,false,false,false,false] rfl rfl (any_of HT_.out (by kernel_rfl)) (fun _ _ _ h => h) (Or.inl ⟨by rfl, ?_⟩) ?_ ?_
                       rotate_left; (· intro w'; go_simp; with_reducible rfl); rotate_left; (· simp only [Act.put, q2af_1, q2af_2, q2af_3, i64_w, i32_w]; rfl)
                       refine pure_ (i := 1) (N := some 59) (v := ?_) (a' := ?_) #[true,true,false,false,false,false,false,false,false,false,false,false,false,false,false,false,false,false,false,false] rfl rfl (any_of HT_.out (by kernel_rfl)) (fun _ _ _ h => h) (Or.inl ⟨by rfl, ?_⟩) ?_ ?_
                       rotate_left; (· intro w'; go_simp; with_reducible rfl); rotate_left; (· simp only [Act.put, q2af_1, q2af_2, q2af_3, i64_w, i32_w]; rfl)
                       refine pure_ (i := 2) (N := some 60) (v := ?_) (a' := ?_) #[true,true,true,false,false,false,false,false,false,false,false,false,false,false,false,false,false,false,false,false] rfl rfl (any_of HT_.out (by kernel_rfl)) (fun _ _ _ h => h) (Or.inl ⟨by rfl, ?_⟩) ?_ ?_
                       rotate_left; (· intro w'; go_simp; with_reducible rfl); rotate_left; (· simp only [Act.put, q2af_1, q2af_2, q2af_3, i64_w, i32_w]; rfl)
                       refine pure_ (i := 3) (N := some 61) (v := ?_) (a' := ?_) #[true,true,true,true,false,false,false,false,false,false,false,false,false,false,false,false,false,false,false,false] rfl rfl (any_of HT_.out (by kernel_rfl)) (fun _ _ _ h => h) (Or.inl ⟨by rfl, ?_⟩) ?_ ?_
                       rotate_left; (· intro w'; go_simp; with_reducible rfl); rotate_left; (· simp only [Act.put, q2af_1, q2af_2, q2af_3, i64_w, i32_w]; rfl)
                       refine pure_ (i := 4) (N := some 62) (v := ?_) (a' := ?_) #[true,true,true,true,true,false,false,false,false,false,false,false,false,false,false,false,false,false,false,false] rfl rfl (any_of HT_.out (by kernel_rfl)) (fun _ _ _ h => h) (Or.inl ⟨by rfl, ?_⟩) ?_ ?_
                       rotate_left; (· intro w'; go_simp; with_reducible rfl); rotate_left; (· simp only [Act.put, q2af_1, q2af_2, q2af_3, i64_w, i32_w]; rfl)
                       refine pure_ (i := 6) (N := some 64) (v := ?_) (a' := ?_) #[true,true,true,true,true,false,true,false,false,false,false,false,false,false,false,false,false,false,false,false] rfl rfl (any_of HT_.out (by kernel_rfl)) (fun _ _ _ h => h) (Or.inl ⟨by rfl, ?_⟩) ?_ ?_
                       rotate_left; (· intro w'; go_simp; with_reducible rfl); rotate_left; (· simp only [Act.put, q2af_1, q2af_2, q2af_3, i64_w, i32_w]; rfl)
                       refine pure_ (i := 9) (N := some 67) (v := ?_) (a' := ?_) #[true,true,true,true,true,false,true,false,false,true,false,false,false,false,false,false,false,false,false,false] rfl rfl (any_of HT_.out (by kernel_rfl)) (fun _ _ _ h => h) (Or.inl ⟨by rfl, ?_⟩) ?_ ?_
                       rotate_left; (· intro w'; go_simp; with_reducible rfl); rotate_left; (· simp only [Act.put, q2af_1, q2af_2, q2af_3, i64_w, i32_w]; rfl)
                       refine pure_ (i := 10) (N := some 68) (v := ?_) (a' := ?_) #[true,true,true,true,true,false,true,false,false,true,true,false,false,false,false,false,false,false,false,false] rfl rfl (any_of HT_.out (by kernel_rfl)) (fun _ _ _ h => h) (Or.inl ⟨by rfl, ?_⟩) ?_ ?_
                       rotate_left; (· intro w'; go_simp; with_reducible rfl); rotate_left; (· simp only [Act.put, q2af_1, q2af_2, q2af_3, i64_w, i32_w]; rfl)
                       refine pure_ (i := 12) (N := some 70) (v := ?_) (a' := ?_) #[true,true,true,true,true,false,true,false,false,true,true,false,true,false,false,false,false,false,false,false] rfl rfl (any_of HT_.out (by kernel_rfl)) (fun _ _ _ h => h) (Or.inl ⟨by rfl, ?_⟩) ?_ ?_
                       rotate_left; (· intro w'; go_simp; with_reducible rfl); rotate_left; (· simp only [Act.put, q2af_1, q2af_2, q2af_3, i64_w, i32_w]; rfl)
                       refine take_ (i := 5) (N := some 63) (v := ?_) (a' := ?_) #[true,true,true,true,true,true,true,false,false,true,true,false,true,false,false,false,false,false,false,false] rfl rfl (take_ofW HT_.out HW_.out (by kernel_rfl)) (fun _ _ _ h => h) (Or.inl ⟨by rfl, ?_⟩) hHeld ?_ ?_
                       rotate_left; (· rintro w' ⟨s0, s1, s2, s3, s4⟩; go_simp; with_reducible rfl); rotate_left; (· simp only [Act.put, q2af_1, q2af_2, q2af_3, i64_w, i32_w]; rfl)
                       refine pure_ (i := 7) (N := some 65) (v := ?_) (a' := ?_) #[true,true,true,true,true,true,true,true,false,true,true,false,true,false,false,false,false,false,false,false] rfl rfl (any_of HT_.out (by kernel_rfl)) (fun _ _ _ h => h) (Or.inl ⟨by rfl, ?_⟩) ?_ ?_
                       rotate_left; (· intro w'; go_simp; with_reducible rfl); rotate_left; (· simp only [Act.put, q2af_1, q2af_2, q2af_3, i64_w, i32_w]; rfl)
                       refine take_ (i := 8) (N := some 66) (v := ?_) (a' := ?_) #[true,true,true,true,true,true,true,true,true,true,true,false,true,false,false,false,false,false,false,false] rfl rfl (take_ofW HT_.out HW_.out (by kernel_rfl)) (fun _ _ _ h => h) (Or.inl ⟨by rfl, ?_⟩) hHeld ?_ ?_
                       rotate_left; (· rintro w' ⟨s0, s1, s2, s3, s4⟩; go_simp; with_reducible rfl); rotate_left; (· simp only [Act.put, q2af_1, q2af_2, q2af_3, i64_w, i32_w]; rfl)
                       refine take_ (i := 11) (N := some 69) (v := ?_) (a' := ?_) #[true,true,true,true,true,true,true,true,true,true,true,true,true,false,false,false,false,false,false,false] rfl rfl (take_ofW HT_.out HW_.out (by kernel_rfl)) (fun _ _ _ h => h) (Or.inl ⟨by rfl, ?_⟩) hHeld ?_ ?_
                       rotate_left; (· rintro w' ⟨s0, s1, s2, s3, s4⟩; go_simp; with_reducible rfl); rotate_left; (· simp only [Act.put, q2af_1, q2af_2, q2af_3, i64_w, i32_w]; rfl)
                       refine pure_ (i := 13) (N := some 71) (v := ?_) (a' := ?_) #[true,true,true,true,true,true,true,true,true,true,true,true,true,true,false,false,false,false,false,false] rfl rfl (any_of HT_.out (by kernel_rfl)) (fun _ _ _ h => h) (Or.inl ⟨by rfl, ?_⟩) ?_ ?_
                       rotate_left; (· intro w'; go_simp; with_reducible rfl); rotate_left; (· simp only [Act.put, q2af_1, q2af_2, q2af_3, i64_w, i32_w]; rfl)
                       refine take_ (i := 14) (N := some 72) (v := ?_) (a' := ?_) #[true,true,true,true,true,true,true,true,true,true,true,true,true,true,true,false,false,false,false,false] rfl rfl (take_ofW HT_.out HW_.out (by kernel_rfl)) (fun _ _ _ h => h) (Or.inl ⟨by rfl, ?_⟩) hHeld ?_ ?_
                       rotate_left; (· rintro w' ⟨s0, s1, s2, s3, s4⟩; go_simp; with_reducible rfl); rotate_left; (· simp only [Act.put, q2af_1, q2af_2, q2af_3, i64_w, i32_w]; rfl)
                       refine pure_ (i := 15) (N := some 73) (v := ?_) (a' := ?_) #[true,true,true,true,true,true,true,true,true,true,true,true,true,true,true,true,false,false,false,false] rfl rfl (any_of HT_.out (by kernel_rfl)) (fun _ _ _ h => h) (Or.inl ⟨by rfl, ?_⟩) ?_ ?_
                       rotate_left; (· intro w'; go_simp; with_reducible rfl); rotate_left; (· simp only [Act.put, q2af_1, q2af_2, q2af_3, i64_w, i32_w]; rfl)
                       refine pure_ (i := 16) (N := some 74) (v := ?_) (a' := ?_) #[true,true,true,true,true,true,true,true,true,true,true,true,true,true,true,true,true,false,false,false] rfl rfl (any_of HT_.out (by kernel_rfl)) (fun _ _ _ h => h) (Or.inl ⟨by rfl, ?_⟩) ?_ ?_
                       rotate_left; (· intro w'; go_simp; with_reducible rfl); rotate_left; (· simp only [Act.put, q2af_1, q2af_2, q2af_3, i64_w, i32_w]; rfl)
                       refine last_ (i := 17) (N := none) #[true,true,true,true,true,true,true,true,true,true,true,true,true,true,true,true,true,true,false,false] rfl rfl (one_of HT_.out (by kernel_rfl)) (by decide) (fun K hK => ?_)
                       refine skip_ (w1 := ?_) (by rfl) rfl ?_ ?_
                       rotate_left
                       ·
                        go_simp
                        rfl
                       refine hK.out _ _ ?_
                       clear hK K
                       refine pure_ (i := 18) (N := some 75) (v := ?_) (a' := ?_) #[true,true,true,true,true,true,true,true,true,true,true,true,true,true,true,true,true,true,true,false] rfl rfl (any_of HT_.out (by kernel_rfl)) (fun _ _ _ h => h) (Or.inl ⟨by rfl, ?_⟩) ?_ ?_
                       rotate_left; (· intro w'; go_simp; with_reducible rfl); rotate_left; (· simp only [Act.put, q2af_1, q2af_2, q2af_3, i64_w, i32_w]; rfl)
                       refine last_ (i := 19) (N := none) #[true,true,true,true,true,true,true,true,true,true,true,true,true,true,true,true,true,true,true,true] rfl rfl (one_of HT_.out (by kernel_rfl)) (by decide) (fun K hK => ?_)
                       refine skip_ (w1 := ?_) (by rfl) rfl ?_ ?_
                       rotate_left
                       ·
                        go_simp
                        rfl
                       refine hK.out _ _ ?_
                       clear hK K
                       refine done_ (done_of HT_.out (by kernel_rfl)) ?_
                       try go_wp2
                       have n0_ : Aside0 (Kd.R (Kd.int .i64) 2 ((w64.setCell ⟨go41, (x49_3 : Int).toNat, none⟩ (.int .i64 (rd l0_0 x49_3))).setCell ⟨go43, (x49_3 : Int).toNat, none⟩ (.int .i64 (wrap64 (x7_1 + (rd l0_2 x49_3))))) w.heap.size (fun k_ => some k_ ≠ (.slice (some ⟨go43, 0, none⟩) x5_3.length co43 : Value).ownBlock ∧ some k_ ≠ (u6 : Value).ownBlock) (.slice (some ⟨go41, 0, none⟩) x4_3.length co17) y124) := ⟨by exact Kd.R_mono (Kd.R_far (p := ⟨go43, (x49_3 : Int).toNat, none⟩) (Kd.R_mono HQ65.out (fun k_ hk => (⟨hk, fun e_ => hk.1 (by rw [e_]; rfl)⟩ : _ ∧ k_ ≠ go43))) (fun _ hk => hk.2) (.int .i64 (wrap64 (x7_1 + (rd l0_2 x49_3))))) (fun _ hk => ⟨hk.1.1, hk.1.2⟩)⟩
                       have n1_ : Aside0 (Kd.R (Kd.int .i64) 2 ((w64.setCell ⟨go41, (x49_3 : Int).toNat, none⟩ (.int .i64 (rd l0_0 x49_3))).setCell ⟨go43, (x49_3 : Int).toNat, none⟩ (.int .i64 (wrap64 (x7_1 + (rd l0_2 x49_3))))) w.heap.size (fun k_ => some k_ ≠ (.slice (some ⟨go41, 0, none⟩) x4_3.length co17 : Value).ownBlock ∧ some k_ ≠ (u6 : Value).ownBlock) (.slice (some ⟨go43, 0, none⟩) x5_3.length co43) y125) := ⟨by exact Kd.R_mono HQ66.out (fun _ hk => ⟨hk.1.1, hk.1.2⟩)⟩
                       have n2_ : Aside0 (Kd.R (Kd.int .i64) 2 ((w64.setCell ⟨go41, (x49_3 : Int).toNat, none⟩ (.int .i64 (rd l0_0 x49_3))).setCell ⟨go43, (x49_3 : Int).toNat, none⟩ (.int .i64 (wrap64 (x7_1 + (rd l0_2 x49_3))))) w.heap.size (fun k_ => some k_ ≠ (.slice (some ⟨go41, 0, none⟩) x4_3.length co17 : Value).ownBlock ∧ some k_ ≠ (.slice (some ⟨go43, 0, none⟩) x5_3.length co43 : Value).ownBlock) u6 x6_1) := ⟨by exact Kd.R_mono (Kd.R_far (p := ⟨go43, (x49_3 : Int).toNat, none⟩) (Kd.R_far (p := ⟨go41, (x49_3 : Int).toNat, none⟩) (Kd.R_mono (Kd.R_mono HO_6.out (fun k_ hk => (⟨hk, fun e_ => hk.1 (by rw [e_]; rfl)⟩ : _ ∧ k_ ≠ go41))) (fun k_ hk => (⟨hk, fun e_ => hk.1.2 (by rw [e_]; rfl)⟩ : _ ∧ k_ ≠ go43))) (fun _ hk => hk.1.2) (.int .i64 (rd l0_0 x49_3))) (fun _ hk => hk.2) (.int .i64 (wrap64 (x7_1 + (rd l0_2 x49_3))))) (fun _ hk => ⟨hk.1.1.1, hk.1.1.2⟩)⟩
                       have n3_ : Aside0 (((w64.setCell ⟨go41, (x49_3 : Int).toNat, none⟩ (.int .i64 (rd l0_0 x49_3))).setCell ⟨go43, (x49_3 : Int).toNat, none⟩ (.int .i64 (wrap64 (x7_1 + (rd l0_2 x49_3))))).heap[gb101]? = some (.cells #[.slice (some ad122) l0_0.length c0_0, .slice (some ad121) l0_1.length c0_1, .slice (some ad123) l0_2.length c0_2] 32 (0, 0))) := ⟨by (with_reducible repeat (first | refine blk_drewN ?_ _ | refine blk_drew ?_ | refine blk_alloc ?_ _)); refine blk_far ?_ (by have h_ := Kd.R_ne HO_5.out BK101.out (by decide); intro e_; exact h_ (by rw [e_]; rfl)) _; (with_reducible repeat (first | refine blk_drewN ?_ _ | refine blk_drew ?_ | refine blk_alloc ?_ _)); refine blk_far ?_ (by have h_ := Kd.R_ne HO_4.out BK101.out (by decide); intro e_; exact h_ (by rw [e_]; rfl)) _; (with_reducible repeat (first | refine blk_drewN ?_ _ | refine blk_drew ?_ | refine blk_alloc ?_ _)); exact BK101.out⟩
                       have n4_ : Aside0 (Below w.heap.size w ((w64.setCell ⟨go41, (x49_3 : Int).toNat, none⟩ (.int .i64 (rd l0_0 x49_3))).setCell ⟨go43, (x49_3 : Int).toNat, none⟩ (.int .i64 (wrap64 (x7_1 + (rd l0_2 x49_3)))))) := ⟨by repeat (first | (with_reducible first | exact HB.out | apply below_alloc | apply pw_below_drewN | apply below_drew1 | refine below_set ?_ GB41.out | refine below_set ?_ GB43.out | refine below_set ?_ GE101.out) | exact HB.out)⟩
                       (try clear HO_4)
                       (try clear HO_5)
                       (try clear HO_6)
                       (try clear BK101)
                       (try clear HB)
                       generalize ((w64.setCell ⟨go41, (x49_3 : Int).toNat, none⟩ (.int .i64 (rd l0_0 x49_3))).setCell ⟨go43, (x49_3 : Int).toNat, none⟩ (.int .i64 (wrap64 (x7_1 + (rd l0_2 x49_3))))) = w67 at n0_ n1_ n2_ n3_ n4_ ⊢
                       have HO_4 := n0_
                       have HO_5 := n1_
                       have HO_6 := n2_
                       have BK101 := n3_
                       have HB := n4_
                       clear n0_ n1_ n2_ n3_ n4_
                       have n0_ := Aside0.mk (Kd.R_drew HO_4.out)
                       have n1_ := Aside0.mk (Kd.R_drew HO_5.out)
                       have n2_ := Aside0.mk (Kd.R_drew HO_6.out)
                       have n3_ := Aside0.mk (blk_drew BK101.out)
                       have n4_ := Aside0.mk (below_drew1 HB.out)
                       clear HO_4
                       clear HO_5
                       clear HO_6
                       clear BK101
                       clear HB
                       have HO_4 := n0_
                       have HO_5 := n1_
                       have HO_6 := n2_
                       have BK101 := n3_
                       have HB := n4_
                       clear n0_ n1_ n2_ n3_ n4_
                       have p126 : 0 ≤ (x49_3 : Int) := of_decide_eq_true (by assumption)
                       have q126 : x49_3 < (y124.length : Int) := (by have h_ : (x49_3 : Int) < ((x4_3.length : Int) : Int) := of_decide_eq_true (by assumption); first | (have e_ := (Kd.R_reads' HO_4.out).1; omega) | simpa only [Ny124.out, List.length_set] using h_)
                       have ql126 : ((x49_3 : Int) < ((x4_3.length : Int) : Int)) = True := eq_true (of_decide_eq_true (by assumption))
                       obtain ⟨ad126, e126, hx126_0⟩ := Kd.at_int (Kd.R_reads' HO_4.out).2.2 x49_3 p126 q126
                       obtain rfl : (⟨go41, 0, none⟩ : Addr) = ad126 := (by injection e126)
                       (first | simp only [add_plain] at hx126_0 | simp only [add_at] at hx126_0 | simp only [Addr.add, Nat.zero_add] at hx126_0 | skip)
                       replace p126 := eq_true p126
                       replace q126 := eq_true q126
                       refine start_ (n := 20) (S := fun w' => w'.cell? ⟨go41, (x49_3).toNat, none⟩ = some (.int .i64 (rd y124 x49_3))) (ds := []) #[false,false,false,false,false,false,false,false,false,false,false,false,false,false,false,false,false,false,false,false] (by kernel_rfl) rfl rfl (hx126_0) (fun hHeld => ?_); refine with_tabW impl_Jobs_earliest.tab19 impl_Jobs_earliest.bits19 (fun HT_ HW_ => ?_)
                       generalize w67.drew = w68 at HO_4 HO_5 HO_6 BK101 HB HQ65 HQ66 hx126_0 hHeld ⊢
                       refine pure_ (i := 0) (N := some 76) (v := ?_) (a' := ?_) #[true,false,false,false,false,false,false,false,false,false,false,false,false,false,false,false,false,false,false,false] rfl rfl (any_of HT_.out (by kernel_rfl)) (fun _ _ _ h => h) (Or.inl ⟨by rfl, ?_⟩) ?_ ?_
                       rotate_left; (· intro w'; go_simp; with_reducible rfl); rotate_left; (· simp only [Act.put, q2af_1, q2af_2, q2af_3, i64_w, i32_w]; rfl)
                       refine pure_ (i := 1) (N := some 77) (v := ?_) (a' := ?_) #[true,true,false,false,false,false,false,false,false,false,false,false,false,false,false,false,false,false,false,false] rfl rfl (any_of HT_.out (by kernel_rfl)) (fun _ _ _ h => h) (Or.inl ⟨by rfl, ?_⟩) ?_ ?_
                       rotate_left; (· intro w'; go_simp; with_reducible rfl); rotate_left; (· simp only [Act.put, q2af_1, q2af_2, q2af_3, i64_w, i32_w]; rfl)
                       refine pure_ (i := 2) (N := some 78) (v := ?_) (a' := ?_) #[true,true,true,false,false,false,false,false,false,false,false,false,false,false,false,false,false,false,false,false] rfl rfl (any_of HT_.out (by kernel_rfl)) (fun _ _ _ h => h) (Or.inl ⟨by rfl, ?_⟩) ?_ ?_
                       rotate_left; (· intro w'; go_simp; with_reducible rfl); rotate_left; (· simp only [Act.put, q2af_1, q2af_2, q2af_3, i64_w, i32_w]; rfl)
                       refine take_ (i := 3) (N := some 79) (v := ?_) (a' := ?_) #[true,true,true,true,false,false,false,false,false,false,false,false,false,false,false,false,false,false,false,false] rfl rfl (take_ofW HT_.out HW_.out (by kernel_rfl)) (fun _ _ _ h => h) (Or.inl ⟨by rfl, ?_⟩) hHeld ?_ ?_
                       rotate_left
                       ·
                        intro w' s0
                        go_simp
                        with_reducible rfl
                       rotate_left
                       ·
                        simp only [Act.put, q2af_1, q2af_2, q2af_3, i64_w, i32_w]
                        rfl
                       refine pure_ (i := 4) (N := some 80) (v := ?_) (a' := ?_) #[true,true,true,true,true,false,false,false,false,false,false,false,false,false,false,false,false,false,false,false] rfl rfl (any_of HT_.out (by kernel_rfl)) (fun _ _ _ h => h) (Or.inl ⟨by rfl, ?_⟩) ?_ ?_
                       rotate_left; (· intro w'; go_simp; with_reducible rfl); rotate_left; (· simp only [Act.put, q2af_1, q2af_2, q2af_3, i64_w, i32_w]; rfl)
                       refine pure_ (i := 5) (N := some 81) (v := ?_) (a' := ?_) #[true,true,true,true,true,true,false,false,false,false,false,false,false,false,false,false,false,false,false,false] rfl rfl (any_of HT_.out (by kernel_rfl)) (fun _ _ _ h => h) (Or.inl ⟨by rfl, ?_⟩) ?_ ?_
                       rotate_left; (· intro w'; go_simp; with_reducible rfl); rotate_left; (· simp only [Act.put, q2af_1, q2af_2, q2af_3, i64_w, i32_w]; rfl)
                       refine pure_ (i := 6) (N := some 82) (v := undef) (a' := ?_) #[true,true,true,true,true,true,true,false,false,false,false,false,false,false,false,false,false,false,false,false] rfl rfl (any_of HT_.out (by kernel_rfl)) (fun _ _ _ h => h) (Or.inr ⟨by rfl, rfl⟩) ?_ ?_
                       rotate_left
                       ·
                        simp only [Act.put, q2af_1, q2af_2, q2af_3, i64_w, i32_w]
                        rfl
                       refine pure_ (i := 7) (N := some 83) (v := undef) (a' := ?_) #[true,true,true,true,true,true,true,true,false,false,false,false,false,false,false,false,false,false,false,false] rfl rfl (any_of HT_.out (by kernel_rfl)) (fun _ _ _ h => h) (Or.inr ⟨by rfl, rfl⟩) ?_ ?_
                       rotate_left
                       ·
                        simp only [Act.put, q2af_1, q2af_2, q2af_3, i64_w, i32_w]
                        rfl
                       refine pure_ (i := 8) (N := some 84) (v := undef) (a' := ?_) #[true,true,true,true,true,true,true,true,true,false,false,false,false,false,false,false,false,false,false,false] rfl rfl (any_of HT_.out (by kernel_rfl)) (fun _ _ _ h => h) (Or.inr ⟨by rfl, rfl⟩) ?_ ?_
                       rotate_left
                       ·
                        simp only [Act.put, q2af_1, q2af_2, q2af_3, i64_w, i32_w]
                        rfl
                       refine pure_ (i := 9) (N := some 85) (v := undef) (a' := ?_) #[true,true,true,true,true,true,true,true,true,true,false,false,false,false,false,false,false,false,false,false] rfl rfl (any_of HT_.out (by kernel_rfl)) (fun _ _ _ h => h) (Or.inr ⟨by rfl, rfl⟩) ?_ ?_
                       rotate_left
                       ·
                        simp only [Act.put, q2af_1, q2af_2, q2af_3, i64_w, i32_w]
                        rfl
                       refine pure_ (i := 10) (N := some 86) (v := undef) (a' := ?_) #[true,true,true,true,true,true,true,true,true,true,true,false,false,false,false,false,false,false,false,false] rfl rfl (any_of HT_.out (by kernel_rfl)) (fun _ _ _ h => h) (Or.inr ⟨by rfl, rfl⟩) ?_ ?_
                       rotate_left
                       ·
                        simp only [Act.put, q2af_1, q2af_2, q2af_3, i64_w, i32_w]
                        rfl
                       refine pure_ (i := 11) (N := some 87) (v := undef) (a' := ?_) #[true,true,true,true,true,true,true,true,true,true,true,true,false,false,false,false,false,false,false,false] rfl rfl (any_of HT_.out (by kernel_rfl)) (fun _ _ _ h => h) (Or.inr ⟨by rfl, rfl⟩) ?_ ?_
                       rotate_left
                       ·
                        simp only [Act.put, q2af_1, q2af_2, q2af_3, i64_w, i32_w]
                        rfl
                       refine pure_ (i := 12) (N := some 88) (v := undef) (a' := ?_) #[true,true,true,true,true,true,true,true,true,true,true,true,true,false,false,false,false,false,false,false] rfl rfl (any_of HT_.out (by kernel_rfl)) (fun _ _ _ h => h) (Or.inr ⟨by rfl, rfl⟩) ?_ ?_
                       rotate_left
                       ·
                        simp only [Act.put, q2af_1, q2af_2, q2af_3, i64_w, i32_w]
                        rfl
                       refine pure_ (i := 13) (N := some 89) (v := undef) (a' := ?_) #[true,true,true,true,true,true,true,true,true,true,true,true,true,true,false,false,false,false,false,false] rfl rfl (any_of HT_.out (by kernel_rfl)) (fun _ _ _ h => h) (Or.inr ⟨by rfl, rfl⟩) ?_ ?_
                       rotate_left
                       ·
                        simp only [Act.put, q2af_1, q2af_2, q2af_3, i64_w, i32_w]
                        rfl
                       refine pure_ (i := 14) (N := some 90) (v := undef) (a' := ?_) #[true,true,true,true,true,true,true,true,true,true,true,true,true,true,true,false,false,false,false,false] rfl rfl (any_of HT_.out (by kernel_rfl)) (fun _ _ _ h => h) (Or.inr ⟨by rfl, rfl⟩) ?_ ?_
                       rotate_left
                       ·
                        simp only [Act.put, q2af_1, q2af_2, q2af_3, i64_w, i32_w]
                        rfl
                       refine pure_ (i := 15) (N := some 91) (v := undef) (a' := ?_) #[true,true,true,true,true,true,true,true,true,true,true,true,true,true,true,true,false,false,false,false] rfl rfl (any_of HT_.out (by kernel_rfl)) (fun _ _ _ h => h) (Or.inr ⟨by rfl, rfl⟩) ?_ ?_
                       rotate_left
                       ·
                        simp only [Act.put, q2af_1, q2af_2, q2af_3, i64_w, i32_w]
                        rfl
                       refine pure_ (i := 16) (N := some 92) (v := undef) (a' := ?_) #[true,true,true,true,true,true,true,true,true,true,true,true,true,true,true,true,true,false,false,false] rfl rfl (any_of HT_.out (by kernel_rfl)) (fun _ _ _ h => h) (Or.inr ⟨by rfl, rfl⟩) ?_ ?_
                       rotate_left
                       ·
                        simp only [Act.put, q2af_1, q2af_2, q2af_3, i64_w, i32_w]
                        rfl
                       refine pure_ (i := 17) (N := some 93) (v := undef) (a' := ?_) #[true,true,true,true,true,true,true,true,true,true,true,true,true,true,true,true,true,true,false,false] rfl rfl (any_of HT_.out (by kernel_rfl)) (fun _ _ _ h => h) (Or.inr ⟨by rfl, rfl⟩) ?_ ?_
                       rotate_left
                       ·
                        simp only [Act.put, q2af_1, q2af_2, q2af_3, i64_w, i32_w]
                        rfl
                       refine pure_ (i := 18) (N := some 94) (v := undef) (a' := ?_) #[true,true,true,true,true,true,true,true,true,true,true,true,true,true,true,true,true,true,true,false] rfl rfl (any_of HT_.out (by kernel_rfl)) (fun _ _ _ h => h) (Or.inr ⟨by rfl, rfl⟩) ?_ ?_
                       rotate_left
                       ·
                        simp only [Act.put, q2af_1, q2af_2, q2af_3, i64_w, i32_w]
                        rfl
                       refine pure_ (i := 19) (N := some 95) (v := ?_) (a' := ?_) #[true,true,true,true,true,true,true,true,true,true,true,true,true,true,true,true,true,true,true,true] rfl rfl (any_of HT_.out (by kernel_rfl)) (fun _ _ _ h => h) (Or.inl ⟨by rfl, ?_⟩) ?_ ?_
                       rotate_left; (· intro w'; go_simp; with_reducible rfl); rotate_left; (· simp only [Act.put, q2af_1, q2af_2, q2af_3, i64_w, i32_w]; rfl)
                       refine done_ (done_of HT_.out (by kernel_rfl)) ?_
                       try go_wp2
                       (try simp only [← hl4_3])
                       go_roundg k3
                       case measure => have := HK1.out; have := HK2.out; have := HK3.out; omega
                       case rel => exact ⟨(y124), (y125), (x9_3), (wrap64 (x49_3 + 1)), (by first | rfl | simp), (by first | rfl | simp), H', ⟨by have := HK1.out; have := HK2.out; have := HK3.out; omega⟩, ⟨by (try simp only [hl4_3]); exact HO_4.out⟩, ⟨by (try simp only [hl4_3]); exact HO_5.out⟩, ⟨by (try simp only [hl4_3]); exact HO_6.out⟩, ⟨by (try simp only [hl4_3]); (with_reducible repeat (first | refine blk_drewN ?_ _ | refine blk_drew ?_ | refine blk_alloc ?_ _)); exact BK101.out⟩, ⟨by repeat (first | (with_reducible first | exact HB.out | apply below_alloc | apply pw_below_drewN | apply below_drew1 | refine below_set ?_ GE101.out) | exact HB.out)⟩⟩
                     ·
                      rw [if_neg c42] at H
                      exact absurd H (by simp)
                    ·
                     rw [if_neg c40] at H
                     exact absurd H (by simp)
                   ·
                    rw [if_neg c39] at H
                    exact absurd H (by simp)
                  ·
                   rw [if_neg c38] at H
                   exact absurd H (by simp)
                 ·
                  rw [if_neg c37] at H
                  have c37b0 : ((Int.tmod x7_1 (rd l0_1 x49_3)) == 0) = false := beq_eq_false_iff_ne.mpr c37
                  have c37b1 : ((Int.tmod x7_1 (rd l0_1 x49_3)) != 0) = true := bne_iff_ne.mpr c37
                  by_cases c69 : x49_3 < (x4_3.length : Int)
                  ·
                   rw [if_pos c69] at H
                   have c69b0 : decide (x49_3 < (x4_3.length : Int)) = true := decide_eq_true c69
                   clear c69
                   by_cases c70 : (rd x4_3 x49_3) > 0
                   ·
                    rw [if_pos c70] at H
                    have c70b0 : decide (0 < (rd x4_3 x49_3)) = true := decide_eq_true c70
                    clear c70
                    by_cases c71 : x9_3 = (-1)
                    ·
                     rw [if_pos c71] at H
                     have c71b0 : (x9_3 == (-1)) = true := beq_iff_eq.mpr c71
                     have c71b1 : (x9_3 != (-1)) = false := bne_eq_false_iff_eq.mpr c71
                     clear c71
                     have H' := Aside0.mk H
                     clear H
                     have p121 : 0 ≤ (x49_3 : Int) := of_decide_eq_true (by assumption)
                     have q121 : x49_3 < (l0_1.length : Int) := of_decide_eq_true (by assumption)
                     obtain ⟨ad121, e121, hx121_0⟩ := Kd.at_int HR0_1.out x49_3 p121 q121
                     cases e121
                     replace hx121_0 := (HB.out.cell (World.block_lt_of_cell? w _ hx121_0)).trans hx121_0
                     replace p121 := eq_true p121
                     replace q121 := eq_true q121
                     try go_wp2
                     have n0_ := Aside0.mk (Kd.R_drew HO_4.out)
                     have n1_ := Aside0.mk (Kd.R_drew HO_5.out)
                     have n2_ := Aside0.mk (Kd.R_drew HO_6.out)
                     have n3_ := Aside0.mk (blk_drew BK101.out)
                     have n4_ := Aside0.mk (below_drew1 HB.out)
                     clear HO_4
                     clear HO_5
                     clear HO_6
                     clear BK101
                     clear HB
                     have HO_4 := n0_
                     have HO_5 := n1_
                     have HO_6 := n2_
                     have BK101 := n3_
                     have HB := n4_
                     clear n0_ n1_ n2_ n3_ n4_
                     have p129 : 0 ≤ (x49_3 : Int) := of_decide_eq_true (by assumption)
                     have q129 : x49_3 < (x4_3.length : Int) := of_decide_eq_true (by assumption)
                     obtain ⟨ad129, e129, hx129_0⟩ := Kd.at_int (Kd.R_reads' HO_4.out).2.2 x49_3 p129 q129
                     cases e129
                     replace p129 := eq_true p129
                     replace q129 := eq_true q129
                     refine start_ (n := 20) (S := fun w' => w'.cell? (ad129.add (x49_3).toNat) = some (.int .i64 (rd x4_3 x49_3))) (ds := []) #[false,false,false,false,false,false,false,false,false,false,false,false,false,false,false,false,false,false,false,false] (by kernel_rfl) rfl rfl (hx129_0) (fun hHeld => ?_); refine with_tabW impl_Jobs_earliest.tab19 impl_Jobs_earliest.bits19 (fun HT_ HW_ => ?_)
                     generalize wr.drew = w72 at HO_4 HO_5 HO_6 BK101 HB hx129_0 hHeld ⊢
                     refine pure_ (i := 0) (N := some 76) (v := ?_) (a' := ?_) #[true,false,false,false,false,false,false,false,false,false,false,false,false,false,false,false,false,false,false,false] rfl rfl (any_of HT_.out (by kernel_rfl)) (fun _ _ _ h => h) (Or.inl ⟨by rfl, ?_⟩) ?_ ?_
                     rotate_left; (· intro w'; go_simp; with_reducible rfl); rotate_left; (· simp only [Act.put, q2af_1, q2af_2, q2af_3, i64_w, i32_w]; rfl)
                     refine pure_ (i := 1) (N := some 77) (v := ?_) (a' := ?_) #[true,true,false,false,false,false,false,false,false,false,false,false,false,false,false,false,false,false,false,false] rfl rfl (any_of HT_.out (by kernel_rfl)) (fun _ _ _ h => h) (Or.inl ⟨by rfl, ?_⟩) ?_ ?_
                     rotate_left; (· intro w'; go_simp; with_reducible rfl); rotate_left; (· simp only [Act.put, q2af_1, q2af_2, q2af_3, i64_w, i32_w]; rfl)
                     refine pure_ (i := 2) (N := some 78) (v := ?_) (a' := ?_) #[true,true,true,false,false,false,false,false,false,false,false,false,false,false,false,false,false,false,false,false] rfl rfl (any_of HT_.out (by kernel_rfl)) (fun _ _ _ h => h) (Or.inl ⟨by rfl, ?_⟩) ?_ ?_
                     rotate_left; (· intro w'; go_simp; with_reducible rfl); rotate_left; (· simp only [Act.put, q2af_1, q2af_2, q2af_3, i64_w, i32_w]; rfl)
                     refine take_ (i := 3) (N := some 79) (v := ?_) (a' := ?_) #[true,true,true,true,false,false,false,false,false,false,false,false,false,false,false,false,false,false,false,false] rfl rfl (take_ofW HT_.out HW_.out (by kernel_rfl)) (fun _ _ _ h => h) (Or.inl ⟨by rfl, ?_⟩) hHeld ?_ ?_
                     rotate_left
                     ·
                      intro w' s0
                      go_simp
                      with_reducible rfl
                     rotate_left
                     ·
                      simp only [Act.put, q2af_1, q2af_2, q2af_3, i64_w, i32_w]
                      rfl
                     refine pure_ (i := 4) (N := some 80) (v := ?_) (a' := ?_) #[true,true,true,true,true,false,false,false,false,false,false,false,false,false,false,false,false,false,false,false] rfl rfl (any_of HT_.out (by kernel_rfl)) (fun _ _ _ h => h) (Or.inl ⟨by rfl, ?_⟩) ?_ ?_
                     rotate_left; (· intro w'; go_simp; with_reducible rfl); rotate_left; (· simp only [Act.put, q2af_1, q2af_2, q2af_3, i64_w, i32_w]; rfl)
                     refine pure_ (i := 5) (N := some 81) (v := ?_) (a' := ?_) #[true,true,true,true,true,true,false,false,false,false,false,false,false,false,false,false,false,false,false,false] rfl rfl (any_of HT_.out (by kernel_rfl)) (fun _ _ _ h => h) (Or.inl ⟨by rfl, ?_⟩) ?_ ?_
                     rotate_left; (· intro w'; go_simp; with_reducible rfl); rotate_left; (· simp only [Act.put, q2af_1, q2af_2, q2af_3, i64_w, i32_w]; rfl)
                     refine pure_ (i := 6) (N := some 82) (v := ?_) (a' := ?_) #[true,true,true,true,true,true,true,false,false,false,false,false,false,false,false,false,false,false,false,false] rfl rfl (any_of HT_.out (by kernel_rfl)) (fun _ _ _ h => h) (Or.inl ⟨by rfl, ?_⟩) ?_ ?_
                     rotate_left; (· intro w'; go_simp; with_reducible rfl); rotate_left; (· simp only [Act.put, q2af_1, q2af_2, q2af_3, i64_w, i32_w]; rfl)
                     refine pure_ (i := 7) (N := some 83) (v := ?_) (a' := ?_) #[true,true,true,true,true,true,true,true,false,false,false,false,false,false,false,false,false,false,false,false] rfl rfl (any_of HT_.out (by kernel_rfl)) (fun _ _ _ h => h) (Or.inl ⟨by rfl, ?_⟩) ?_ ?_
                     rotate_left; (· intro w'; go_simp; with_reducible rfl); rotate_left; (· simp only [Act.put, q2af_1, q2af_2, q2af_3, i64_w, i32_w]; rfl)
                     refine pure_ (i := 8) (N := some 84) (v := ?_) (a' := ?_) #[true,true,true,true,true,true,true,true,true,false,false,false,false,false,false,false,false,false,false,false] rfl rfl (any_of HT_.out (by kernel_rfl)) (fun _ _ _ h => h) (Or.inl ⟨by rfl, ?_⟩) ?_ ?_
                     rotate_left; (· intro w'; go_simp; with_reducible rfl); rotate_left; (· simp only [Act.put, q2af_1, q2af_2, q2af_3, i64_w, i32_w]; rfl)
                     refine pure_ (i := 9) (N := some 85) (v := undef) (a' := ?_) #[true,true,true,true,true,true,true,true,true,true,false,false,false,false,false,false,false,false,false,false] rfl rfl (any_of HT_.out (by kernel_rfl)) (fun _ _ _ h => h) (Or.inr ⟨by rfl, rfl⟩) ?_ ?_
                     rotate_left
                     ·
                      simp only [Act.put, q2af_1, q2af_2, q2af_3, i64_w, i32_w]
                      rfl
                     refine pure_ (i := 10) (N := some 86) (v := undef) (a' := ?_) #[true,true,true,true,true,true,true,true,true,true,true,false,false,false,false,false,false,false,false,false] rfl rfl (any_of HT_.out (by kernel_rfl)) (fun _ _ _ h => h) (Or.inr ⟨by rfl, rfl⟩) ?_ ?_
                     rotate_left
                     ·
                      simp only [Act.put, q2af_1, q2af_2, q2af_3, i64_w, i32_w]
                      rfl
                     refine pure_ (i := 11) (N := some 87) (v := undef) (a' := ?_) #[true,true,true,true,true,true,true,true,true,true,true,true,false,false,false,false,false,false,false,false] rfl rfl (any_of HT_.out (by kernel_rfl)) (fun _ _ _ h => h) (Or.inr ⟨by rfl, rfl⟩) ?_ ?_
                     rotate_left
                     ·
                      simp only [Act.put, q2af_1, q2af_2, q2af_3, i64_w, i32_w]
                      rfl
                     refine pure_ (i := 12) (N := some 88) (v := undef) (a' := ?_) #[true,true,true,true,true,true,true,true,true,true,true,true,true,false,false,false,false,false,false,false] rfl rfl (any_of HT_.out (by kernel_rfl)) (fun _ _ _ h => h) (Or.inr ⟨by rfl, rfl⟩) ?_ ?_
                     rotate_left
                     ·
                      simp only [Act.put, q2af_1, q2af_2, q2af_3, i64_w, i32_w]
                      rfl
                     refine pure_ (i := 13) (N := some 89) (v := undef) (a' := ?_) #[true,true,true,true,true,true,true,true,true,true,true,true,true,true,false,false,false,false,false,false] rfl rfl (any_of HT_.out (by kernel_rfl)) (fun _ _ _ h => h) (Or.inr ⟨by rfl, rfl⟩) ?_ ?_
                     rotate_left
                     ·
                      simp only [Act.put, q2af_1, q2af_2, q2af_3, i64_w, i32_w]
                      rfl
                     refine pure_ (i := 14) (N := some 90) (v := undef) (a' := ?_) #[true,true,true,true,true,true,true,true,true,true,true,true,true,true,true,false,false,false,false,false] rfl rfl (any_of HT_.out (by kernel_rfl)) (fun _ _ _ h => h) (Or.inr ⟨by rfl, rfl⟩) ?_ ?_
                     rotate_left
                     ·
                      simp only [Act.put, q2af_1, q2af_2, q2af_3, i64_w, i32_w]
                      rfl
                     refine pure_ (i := 15) (N := some 91) (v := undef) (a' := ?_) #[true,true,true,true,true,true,true,true,true,true,true,true,true,true,true,true,false,false,false,false] rfl rfl (any_of HT_.out (by kernel_rfl)) (fun _ _ _ h => h) (Or.inr ⟨by rfl, rfl⟩) ?_ ?_
                     rotate_left
                     ·
                      simp only [Act.put, q2af_1, q2af_2, q2af_3, i64_w, i32_w]
                      rfl
                     refine pure_ (i := 16) (N := some 92) (v := undef) (a' := ?_) #[true,true,true,true,true,true,true,true,true,true,true,true,true,true,true,true,true,false,false,false] rfl rfl (any_of HT_.out (by kernel_rfl)) (fun _ _ _ h => h) (Or.inr ⟨by rfl, rfl⟩) ?_ ?_
                     rotate_left
                     ·
                      simp only [Act.put, q2af_1, q2af_2, q2af_3, i64_w, i32_w]
                      rfl
                     refine pure_ (i := 17) (N := some 93) (v := undef) (a' := ?_) #[true,true,true,true,true,true,true,true,true,true,true,true,true,true,true,true,true,true,false,false] rfl rfl (any_of HT_.out (by kernel_rfl)) (fun _ _ _ h => h) (Or.inr ⟨by rfl, rfl⟩) ?_ ?_
                     rotate_left
                     ·
                      simp only [Act.put, q2af_1, q2af_2, q2af_3, i64_w, i32_w]
                      rfl
                     refine pure_ (i := 18) (N := some 94) (v := ?_) (a' := ?_) #[true,true,true,true,true,true,true,true,true,true,true,true,true,true,true,true,true,true,true,false] rfl rfl (any_of HT_.out (by kernel_rfl)) (fun _ _ _ h => h) (Or.inl ⟨by rfl, ?_⟩) ?_ ?_
                     rotate_left; (· intro w'; go_simp; with_reducible rfl); rotate_left; (· simp only [Act.put, q2af_1, q2af_2, q2af_3, i64_w, i32_w]; rfl)
                     refine pure_ (i := 19) (N := some 95) (v := ?_) (a' := ?_) #[true,true,true,true,true,true,true,true,true,true,true,true,true,true,true,true,true,true,true,true] rfl rfl (any_of HT_.out (by kernel_rfl)) (fun _ _ _ h => h) (Or.inl ⟨by rfl, ?_⟩) ?_ ?_
                     rotate_left; (· intro w'; go_simp; with_reducible rfl); rotate_left; (· simp only [Act.put, q2af_1, q2af_2, q2af_3, i64_w, i32_w]; rfl)
                     refine done_ (done_of HT_.out (by kernel_rfl)) ?_
                     try go_wp2
                     (try simp only [← hl4_3])
                     go_roundg k3
                     case measure => have := HK1.out; have := HK2.out; have := HK3.out; omega
                     case rel => exact ⟨(x4_3), (x5_3), (x49_3), (wrap64 (x49_3 + 1)), (by first | rfl | simp), (by first | rfl | simp), H', ⟨by have := HK1.out; have := HK2.out; have := HK3.out; omega⟩, ⟨by (try simp only [hl4_3]); exact HO_4.out⟩, ⟨by (try simp only [hl4_3]); exact HO_5.out⟩, ⟨by (try simp only [hl4_3]); exact HO_6.out⟩, ⟨by (try simp only [hl4_3]); (with_reducible repeat (first | refine blk_drewN ?_ _ | refine blk_drew ?_ | refine blk_alloc ?_ _)); exact BK101.out⟩, ⟨by repeat (first | (with_reducible first | exact HB.out | apply below_alloc | apply pw_below_drewN | apply below_drew1 | refine below_set ?_ GE101.out) | exact HB.out)⟩⟩
                    ·
                     rw [if_neg c71] at H
                     have c71b0 : (x9_3 == (-1)) = false := beq_eq_false_iff_ne.mpr c71
                     have c71b1 : (x9_3 != (-1)) = true := bne_iff_ne.mpr c71
                     by_cases c73 : x49_3 < (x5_3.length : Int)
                     ·
                      rw [if_pos c73] at H
                      have c73b0 : decide (x49_3 < (x5_3.length : Int)) = true := decide_eq_true c73
                      clear c73
                      by_cases c74 : 0 ≤ x9_3
                      ·
                       rw [if_pos c74] at H
                       have c74b0 : decide (0 ≤ x9_3) = true := decide_eq_true c74
                       clear c74
                       by_cases c75 : x9_3 < (x5_3.length : Int)
                       ·
                        rw [if_pos c75] at H
                        have c75b0 : decide (x9_3 < (x5_3.length : Int)) = true := decide_eq_true c75
                        clear c75
                        by_cases c76 : (rd x5_3 x49_3) < (rd x5_3 x9_3)
                        ·
                         rw [if_pos c76] at H
                         have c76b0 : decide ((rd x5_3 x49_3) < (rd x5_3 x9_3)) = true := decide_eq_true c76
                         clear c76
                         have H' := Aside0.mk H
                         clear H
                         have p121 : 0 ≤ (x49_3 : Int) := of_decide_eq_true (by assumption)
                         have q121 : x49_3 < (l0_1.length : Int) := of_decide_eq_true (by assumption)
                         obtain ⟨ad121, e121, hx121_0⟩ := Kd.at_int HR0_1.out x49_3 p121 q121
                         cases e121
                         replace hx121_0 := (HB.out.cell (World.block_lt_of_cell? w _ hx121_0)).trans hx121_0
                         replace p121 := eq_true p121
                         replace q121 := eq_true q121
                         try go_wp2
                         have n0_ := Aside0.mk (Kd.R_drew HO_4.out)
                         have n1_ := Aside0.mk (Kd.R_drew HO_5.out)
                         have n2_ := Aside0.mk (Kd.R_drew HO_6.out)
                         have n3_ := Aside0.mk (blk_drew BK101.out)
                         have n4_ := Aside0.mk (below_drew1 HB.out)
                         clear HO_4
                         clear HO_5
                         clear HO_6
                         clear BK101
                         clear HB
                         have HO_4 := n0_
                         have HO_5 := n1_
                         have HO_6 := n2_
                         have BK101 := n3_
                         have HB := n4_
                         clear n0_ n1_ n2_ n3_ n4_
                         have p129 : 0 ≤ (x49_3 : Int) := of_decide_eq_true (by assumption)
                         have q129 : x49_3 < (x4_3.length : Int) := of_decide_eq_true (by assumption)
                         obtain ⟨ad129, e129, hx129_0⟩ := Kd.at_int (Kd.R_reads' HO_4.out).2.2 x49_3 p129 q129
                         cases e129
                         replace p129 := eq_true p129
                         replace q129 := eq_true q129
                         obtain ⟨Ao78, co78, eo78⟩ := Kd.R_slice HO_5.out
                         (first | subst eo78 | (injection eo78 with f1_ f2_ f3_; have f4_ := f1_.symm; have f5_ := f3_.symm; clear f1_ f2_ f3_; subst f4_; subst f5_))
                         have p130 : 0 ≤ (x49_3 : Int) := of_decide_eq_true (by assumption)
                         have q130 : x49_3 < (x5_3.length : Int) := of_decide_eq_true (by assumption)
                         obtain ⟨ad130, e130, hx130_0⟩ := Kd.at_int (Kd.R_reads' HO_5.out).2.2 x49_3 p130 q130
                         cases e130
                         replace p130 := eq_true p130
                         replace q130 := eq_true q130
                         have p131 : 0 ≤ (x9_3 : Int) := of_decide_eq_true (by assumption)
                         have q131 : x9_3 < (x5_3.length : Int) := of_decide_eq_true (by assumption)
                         obtain ⟨ad131, e131, hx131_0⟩ := Kd.at_int (Kd.R_reads' HO_5.out).2.2 x9_3 p131 q131
                         obtain rfl : ad130 = ad131 := (by injection e131)
                         replace p131 := eq_true p131
                         replace q131 := eq_true q131
                         refine start_ (n := 20) (S := fun w' => w'.cell? (ad129.add (x49_3).toNat) = some (.int .i64 (rd x4_3 x49_3)) ∧ w'.cell? (ad130.add (x49_3).toNat) = some (.int .i64 (rd x5_3 x49_3)) ∧ w'.cell? (ad130.add (x9_3).toNat) = some (.int .i64 (rd x5_3 x9_3))) (ds := []) #[false,false,false,false,false,false,false,false,false,false,false,false,false,false,false,false,false,false,false,false] (by kernel_rfl) rfl rfl ⟨hx129_0, hx130_0, hx131_0⟩ (fun hHeld => ?_); refine with_tabW impl_Jobs_earliest.tab19 impl_Jobs_earliest.bits19 (fun HT_ HW_ => ?_)
                         generalize wr.drew = w77 at HO_4 HO_5 HO_6 BK101 HB hx129_0 hx130_0 hx131_0 hHeld ⊢
                         refine pure_ (i := 0) (N := some 76) (v := ?_) (a' := ?_) #[true,false,false,false,false,false,false,false,false,false,false,false,false,false,false,false,false,false,false,false] rfl rfl (any_of HT_.out (by kernel_rfl)) (fun _ _ _ h => h) (Or.inl ⟨by rfl, ?_⟩) ?_ ?_
                         rotate_left; (· intro w'; go_simp; with_reducible rfl); rotate_left; (· simp only [Act.put, q2af_1, q2af_2, q2af_3, i64_w, i32_w]; rfl)
                         refine pure_ (i := 1) (N := some 77) (v := ?_) (a' := ?_) #[true,true,false,false,false,false,false,false,false,false,false,false,false,false,false,false,false,false,false,false] rfl rfl (any_of HT_.out (by kernel_rfl)) (fun _ _ _ h => h) (Or.inl ⟨by rfl, ?_⟩) ?_ ?_
                         rotate_left; (· intro w'; go_simp; with_reducible rfl); rotate_left; (· simp only [Act.put, q2af_1, q2af_2, q2af_3, i64_w, i32_w]; rfl)
                         refine pure_ (i := 2) (N := some 78) (v := ?_) (a' := ?_) #[true,true,true,false,false,false,false,false,false,false,false,false,false,false,false,false,false,false,false,false] rfl rfl (any_of HT_.out (by kernel_rfl)) (fun _ _ _ h => h) (Or.inl ⟨by rfl, ?_⟩) ?_ ?_
                         rotate_left; (· intro w'; go_simp; with_reducible rfl); rotate_left; (· simp only [Act.put, q2af_1, q2af_2, q2af_3, i64_w, i32_w]; rfl)
                         refine take_ (i := 3) (N := some 79) (v := ?_) (a' := ?_) #[true,true,true,true,false,false,false,false,false,false,false,false,false,false,false,false,false,false,false,false] rfl rfl (take_ofW HT_.out HW_.out (by kernel_rfl)) (fun _ _ _ h => h) (Or.inl ⟨by rfl, ?_⟩) hHeld ?_ ?_
                         rotate_left; (· rintro w' ⟨s0, s1, s2⟩; go_simp; with_reducible rfl); rotate_left; (· simp only [Act.put, q2af_1, q2af_2, q2af_3, i64_w, i32_w]; rfl)
                         refine pure_ (i := 4) (N := some 80) (v := ?_) (a' := ?_) #[true,true,true,true,true,false,false,false,false,false,false,false,false,false,false,false,false,false,false,false] rfl rfl (any_of HT_.out (by kernel_rfl)) (fun _ _ _ h => h) (Or.inl ⟨by rfl, ?_⟩) ?_ ?_
                         rotate_left; (· intro w'; go_simp; with_reducible rfl); rotate_left; (· simp only [Act.put, q2af_1, q2af_2, q2af_3, i64_w, i32_w]; rfl)
                         refine pure_ (i := 5) (N := some 81) (v := ?_) (a' := ?_) #[true,true,true,true,true,true,false,false,false,false,false,false,false,false,false,false,false,false,false,false] rfl rfl (any_of HT_.out (by kernel_rfl)) (fun _ _ _ h => h) (Or.inl ⟨by rfl, ?_⟩) ?_ ?_
                         rotate_left; (· intro w'; go_simp; with_reducible rfl); rotate_left; (· simp only [Act.put, q2af_1, q2af_2, q2af_3, i64_w, i32_w]; rfl)
                         refine pure_ (i := 6) (N := some 82) (v := ?_) (a' := ?_) #[true,true,true,true,true,true,true,false,false,false,false,false,false,false,false,false,false,false,false,false] rfl rfl (any_of HT_.out (by kernel_rfl)) (fun _ _ _ h => h) (Or.inl ⟨by rfl, ?_⟩) ?_ ?_
                         rotate_left; (· intro w'; go_simp; with_reducible rfl); rotate_left; (· simp only [Act.put, q2af_1, q2af_2, q2af_3, i64_w, i32_w]; rfl)
                         refine pure_ (i := 7) (N := some 83) (v := ?_) (a' := ?_) #[true,true,true,true,true,true,true,true,false,false,false,false,false,false,false,false,false,false,false,false] rfl rfl (any_of HT_.out (by kernel_rfl)) (fun _ _ _ h => h) (Or.inl ⟨by rfl, ?_⟩) ?_ ?_
                         rotate_left; (· intro w'; go_simp; with_reducible rfl); rotate_left; (· simp only [Act.put, q2af_1, q2af_2, q2af_3, i64_w, i32_w]; rfl)
                         refine pure_ (i := 8) (N := some 84) (v := ?_) (a' := ?_) #[true,true,true,true,true,true,true,true,true,false,false,false,false,false,false,false,false,false,false,false] rfl rfl (any_of HT_.out (by kernel_rfl)) (fun _ _ _ h => h) (Or.inl ⟨by rfl, ?_⟩) ?_ ?_
                         rotate_left; (· intro w'; go_simp; with_reducible rfl); rotate_left; (· simp only [Act.put, q2af_1, q2af_2, q2af_3, i64_w, i32_w]; rfl)
                         refine pure_ (i := 9) (N := some 85) (v := ?_) (a' := ?_) #[true,true,true,true,true,true,true,true,true,true,false,false,false,false,false,false,false,false,false,false] rfl rfl (any_of HT_.out (by kernel_rfl)) (fun _ _ _ h => h) (Or.inl ⟨by rfl, ?_⟩) ?_ ?_
                         rotate_left; (· intro w'; go_simp; with_reducible rfl); rotate_left; (· simp only [Act.put, q2af_1, q2af_2, q2af_3, i64_w, i32_w]; rfl)
                         refine pure_ (i := 10) (N := some 86) (v := ?_) (a' := ?_) #[true,true,true,true,true,true,true,true,true,true,true,false,false,false,false,false,false,false,false,false] rfl rfl (any_of HT_.out (by kernel_rfl)) (fun _ _ _ h => h) (Or.inl ⟨by rfl, ?_⟩) ?_ ?_
                         rotate_left; (· intro w'; go_simp; with_reducible rfl); rotate_left; (· simp only [Act.put, q2af_1, q2af_2, q2af_3, i64_w, i32_w]; rfl)
                         refine pure_ (i := 11) (N := some 87) (v := ?_) (a' := ?_) #[true,true,true,true,true,true,true,true,true,true,true,true,false,false,false,false,false,false,false,false] rfl rfl (any_of HT_.out (by kernel_rfl)) (fun _ _ _ h => h) (Or.inl ⟨by rfl, ?_⟩) ?_ ?_
                         rotate_left; (· intro w'; go_simp; with_reducible rfl); rotate_left; (· simp only [Act.put, q2af_1, q2af_2, q2af_3, i64_w, i32_w]; rfl)
                         refine pure_ (i := 13) (N := some 89) (v := ?_) (a' := ?_) #[true,true,true,true,true,true,true,true,true,true,true,true,false,true,false,false,false,false,false,false] rfl rfl (any_of HT_.out (by kernel_rfl)) (fun _ _ _ h => h) (Or.inl ⟨by rfl, ?_⟩) ?_ ?_
                         rotate_left; (· intro w'; go_simp; with_reducible rfl); rotate_left; (· simp only [Act.put, q2af_1, q2af_2, q2af_3, i64_w, i32_w]; rfl)
                         refine pure_ (i := 14) (N := some 90) (v := ?_) (a' := ?_) #[true,true,true,true,true,true,true,true,true,true,true,true,false,true,true,false,false,false,false,false] rfl rfl (any_of HT_.out (by kernel_rfl)) (fun _ _ _ h => h) (Or.inl ⟨by rfl, ?_⟩) ?_ ?_
                         rotate_left; (· intro w'; go_simp; with_reducible rfl); rotate_left; (· simp only [Act.put, q2af_1, q2af_2, q2af_3, i64_w, i32_w]; rfl)
                         refine pure_ (i := 15) (N := some 91) (v := ?_) (a' := ?_) #[true,true,true,true,true,true,true,true,true,true,true,true,false,true,true,true,false,false,false,false] rfl rfl (any_of HT_.out (by kernel_rfl)) (fun _ _ _ h => h) (Or.inl ⟨by rfl, ?_⟩) ?_ ?_
                         rotate_left; (· intro w'; go_simp; with_reducible rfl); rotate_left; (· simp only [Act.put, q2af_1, q2af_2, q2af_3, i64_w, i32_w]; rfl)
                         refine take_ (i := 12) (N := some 88) (v := ?_) (a' := ?_) #[true,true,true,true,true,true,true,true,true,true,true,true,true,true,true,true,false,false,false,false] rfl rfl (take_ofW HT_.out HW_.out (by kernel_rfl)) (fun _ _ _ h => h) (Or.inl ⟨by rfl, ?_⟩) hHeld ?_ ?_
                         rotate_left; (· rintro w' ⟨s0, s1, s2⟩; go_simp; with_reducible rfl); rotate_left; (· simp only [Act.put, q2af_1, q2af_2, q2af_3, i64_w, i32_w]; rfl)
                         refine take_ (i := 16) (N := some 92) (v := ?_) (a' := ?_) #[true,true,true,true,true,true,true,true,true,true,true,true,true,true,true,true,true,false,false,false] rfl rfl (take_ofW HT_.out HW_.out (by kernel_rfl)) (fun _ _ _ h => h) (Or.inl ⟨by rfl, ?_⟩) hHeld ?_ ?_
                         rotate_left; (· rintro w' ⟨s0, s1, s2⟩; go_simp; with_reducible rfl); rotate_left; (· simp only [Act.put, q2af_1, q2af_2, q2af_3, i64_w, i32_w]; rfl)
                         refine pure_ (i := 17) (N := some 93) (v := ?_) (a' := ?_) #[true,true,true,true,true,true,true,true,true,true,true,true,true,true,true,true,true,true,false,false] rfl rfl (any_of HT_.out (by kernel_rfl)) (fun _ _ _ h => h) (Or.inl ⟨by rfl, ?_⟩) ?_ ?_
                         rotate_left; (· intro w'; go_simp; with_reducible rfl); rotate_left; (· simp only [Act.put, q2af_1, q2af_2, q2af_3, i64_w, i32_w]; rfl)
                         refine pure_ (i := 18) (N := some 94) (v := ?_) (a' := ?_) #[true,true,true,true,true,true,true,true,true,true,true,true,true,true,true,true,true,true,true,false] rfl rfl (any_of HT_.out (by kernel_rfl)) (fun _ _ _ h => h) (Or.inl ⟨by rfl, ?_⟩) ?_ ?_
                         rotate_left; (· intro w'; go_simp; with_reducible rfl); rotate_left; (· simp only [Act.put, q2af_1, q2af_2, q2af_3, i64_w, i32_w]; rfl)
                         refine pure_ (i := 19) (N := some 95) (v := ?_) (a' := ?_) #[true,true,true,true,true,true,true,true,true,true,true,true,true,true,true,true,true,true,true,true] rfl rfl (any_of HT_.out (by kernel_rfl)) (fun _ _ _ h => h) (Or.inl ⟨by rfl, ?_⟩) ?_ ?_
                         rotate_left; (· intro w'; go_simp; with_reducible rfl); rotate_left; (· simp only [Act.put, q2af_1, q2af_2, q2af_3, i64_w, i32_w]; rfl)
                         refine done_ (done_of HT_.out (by kernel_rfl)) ?_
                         try go_wp2
                         (try simp only [← hl4_3])
                         go_roundg k3
                         case measure => have := HK1.out; have := HK2.out; have := HK3.out; omega
                         case rel => exact ⟨(x4_3), (x5_3), (x49_3), (wrap64 (x49_3 + 1)), (by first | rfl | simp), (by first | rfl | simp), H', ⟨by have := HK1.out; have := HK2.out; have := HK3.out; omega⟩, ⟨by (try simp only [hl4_3]); exact HO_4.out⟩, ⟨by (try simp only [hl4_3]); exact HO_5.out⟩, ⟨by (try simp only [hl4_3]); exact HO_6.out⟩, ⟨by (try simp only [hl4_3]); (with_reducible repeat (first | refine blk_drewN ?_ _ | refine blk_drew ?_ | refine blk_alloc ?_ _)); exact BK101.out⟩, ⟨by repeat (first | (with_reducible first | exact HB.out | apply below_alloc | apply pw_below_drewN | apply below_drew1 | refine below_set ?_ GE101.out) | exact HB.out)⟩⟩
                        ·
                         rw [if_neg c76] at H
                         have c76b0 : decide ((rd x5_3 x49_3) < (rd x5_3 x9_3)) = false := decide_eq_false c76
                         clear c76
                         have H' := Aside0.mk H
                         clear H
                         have p121 : 0 ≤ (x49_3 : Int) := of_decide_eq_true (by assumption)
                         have q121 : x49_3 < (l0_1.length : Int) := of_decide_eq_true (by assumption)
                         obtain ⟨ad121, e121, hx121_0⟩ := Kd.at_int HR0_1.out x49_3 p121 q121
                         cases e121
                         replace hx121_0 := (HB.out.cell (World.block_lt_of_cell? w _ hx121_0)).trans hx121_0
                         replace p121 := eq_true p121
                         replace q121 := eq_true q121
                         try go_wp2
                         have n0_ := Aside0.mk (Kd.R_drew HO_4.out)
                         have n1_ := Aside0.mk (Kd.R_drew HO_5.out)
                         have n2_ := Aside0.mk (Kd.R_drew HO_6.out)
                         have n3_ := Aside0.mk (blk_drew BK101.out)
                         have n4_ := Aside0.mk (below_drew1 HB.out)
                         clear HO_4
                         clear HO_5
                         clear HO_6
                         clear BK101
                         clear HB
                         have HO_4 := n0_
                         have HO_5 := n1_
                         have HO_6 := n2_
                         have BK101 := n3_
                         have HB := n4_
                         clear n0_ n1_ n2_ n3_ n4_
                         have p129 : 0 ≤ (x49_3 : Int) := of_decide_eq_true (by assumption)
                         have q129 : x49_3 < (x4_3.length : Int) := of_decide_eq_true (by assumption)
                         obtain ⟨ad129, e129, hx129_0⟩ := Kd.at_int (Kd.R_reads' HO_4.out).2.2 x49_3 p129 q129
                         cases e129
                         replace p129 := eq_true p129
                         replace q129 := eq_true q129
                         obtain ⟨Ao80, co80, eo80⟩ := Kd.R_slice HO_5.out
                         (first | subst eo80 | (injection eo80 with f1_ f2_ f3_; have f4_ := f1_.symm; have f5_ := f3_.symm; clear f1_ f2_ f3_; subst f4_; subst f5_))
                         have p130 : 0 ≤ (x49_3 : Int) := of_decide_eq_true (by assumption)
                         have q130 : x49_3 < (x5_3.length : Int) := of_decide_eq_true (by assumption)
                         obtain ⟨ad130, e130, hx130_0⟩ := Kd.at_int (Kd.R_reads' HO_5.out).2.2 x49_3 p130 q130
                         cases e130
                         replace p130 := eq_true p130
                         replace q130 := eq_true q130
                         have p131 : 0 ≤ (x9_3 : Int) := of_decide_eq_true (by assumption)
                         have q131 : x9_3 < (x5_3.length : Int) := of_decide_eq_true (by assumption)
                         obtain ⟨ad131, e131, hx131_0⟩ := Kd.at_int (Kd.R_reads' HO_5.out).2.2 x9_3 p131 q131
                         obtain rfl : ad130 = ad131 := (by injection e131)
                         replace p131 := eq_true p131
                         replace q131 := eq_true q131
                         refine start_ (n := 20) (S := fun w' => w'.cell? (ad129.add (x49_3).toNat) = some (.int .i64 (rd x4_3 x49_3)) ∧ w'.cell? (ad130.add (x49_3).toNat) = some (.int .i64 (rd x5_3 x49_3)) ∧ w'.cell? (ad130.add (x9_3).toNat) = some (.int .i64 (rd x5_3 x9_3))) (ds := []) #[false,false,false,false,false,false,false,false,false,false,false,false,false,false,false,false,false,false,false,false] (by kernel_rfl) rfl rfl ⟨hx129_0, hx130_0, hx131_0⟩ (fun hHeld => ?_); refine with_tabW impl_Jobs_earliest.tab19 impl_Jobs_earliest.bits19 (fun HT_ HW_ => ?_)
                         generalize wr.drew = w79 at HO_4 HO_5 HO_6 BK101 HB hx129_0 hx130_0 hx131_0 hHeld ⊢
                         refine pure_ (i := 0) (N := some 76) (v := ?_) (a' := ?_) #[true,false,false,false,false,false,false,false,false,false,false,false,false,false,false,false,false,false,false,false] rfl rfl (any_of HT_.out (by kernel_rfl)) (fun _ _ _ h => h) (Or.inl ⟨by rfl, ?_⟩) ?_ ?_
                         rotate_left; (· intro w'; go_simp; with_reducible rfl); rotate_left; (· simp only [Act.put, q2af_1, q2af_2, q2af_3, i64_w, i32_w]; rfl)
                         refine pure_ (i := 1) (N := some 77) (v := ?_) (a' := ?_) #[true,true,false,false,false,false,false,false,false,false,false,false,false,false,false,false,false,false,false,false] rfl rfl (any_of HT_.out (by kernel_rfl)) (fun _ _ _ h => h) (Or.inl ⟨by rfl, ?_⟩) ?_ ?_
                         rotate_left; (· intro w'; go_simp; with_reducible rfl); rotate_left; (· simp only [Act.put, q2af_1, q2af_2, q2af_3, i64_w, i32_w]; rfl)
                         refine pure_ (i := 2) (N := some 78) (v := ?_) (a' := ?_) #[true,true,true,false,false,false,false,false,false,false,false,false,false,false,false,false,false,false,false,false] rfl rfl (any_of HT_.out (by kernel_rfl)) (fun _ _ _ h => h) (Or.inl ⟨by rfl, ?_⟩) ?_ ?_
                         rotate_left; (· intro w'; go_simp; with_reducible rfl); rotate_left; (· simp only [Act.put, q2af_1, q2af_2, q2af_3, i64_w, i32_w]; rfl)
                         refine take_ (i := 3) (N := some 79) (v := ?_) (a' := ?_) #[true,true,true,true,false,false,false,false,false,false,false,false,false,false,false,false,false,false,false,false] rfl rfl (take_ofW HT_.out HW_.out (by kernel_rfl)) (fun _ _ _ h => h) (Or.inl ⟨by rfl, ?_⟩) hHeld ?_ ?_
                         rotate_left; (· rintro w' ⟨s0, s1, s2⟩; go_simp; with_reducible rfl); rotate_left; (· simp only [Act.put, q2af_1, q2af_2, q2af_3, i64_w, i32_w]; rfl)
                         refine pure_ (i := 4) (N := some 80) (v := ?_) (a' := ?_) #[true,true,true,true,true,false,false,false,false,false,false,false,false,false,false,false,false,false,false,false] rfl rfl (any_of HT_.out (by kernel_rfl)) (fun _ _ _ h => h) (Or.inl ⟨by rfl, ?_⟩) ?_ ?_
                         rotate_left; (· intro w'; go_simp; with_reducible rfl); rotate_left; (· simp only [Act.put, q2af_1, q2af_2, q2af_3, i64_w, i32_w]; rfl)
                         refine pure_ (i := 5) (N := some 81) (v := ?_) (a' := ?_) #[true,true,true,true,true,true,false,false,false,false,false,false,false,false,false,false,false,false,false,false] rfl rfl (any_of HT_.out (by kernel_rfl)) (fun _ _ _ h => h) (Or.inl ⟨by rfl, ?_⟩) ?_ ?_
                         rotate_left; (· intro w'; go_simp; with_reducible rfl); rotate_left; (· simp only [Act.put, q2af_1, q2af_2, q2af_3, i64_w, i32_w]; rfl)
                         refine pure_ (i := 6) (N := some 82) (v := ?_) (a' := ?_) #[true,true,true,true,true,true,true,false,false,false,false,false,false,false,false,false,false,false,false,false] rfl rfl (any_of HT_.out (by kernel_rfl)) (fun _ _ _ h => h) (Or.inl ⟨by rfl, ?_⟩) ?_ ?_
                         rotate_left; (· intro w'; go_simp; with_reducible rfl); rotate_left; (· simp only [Act.put, q2af_1, q2af_2, q2af_3, i64_w, i32_w]; rfl)
                         refine pure_ (i := 7) (N := some 83) (v := ?_) (a' := ?_) #[true,true,true,true,true,true,true,true,false,false,false,false,false,false,false,false,false,false,false,false] rfl rfl (any_of HT_.out (by kernel_rfl)) (fun _ _ _ h => h) (Or.inl ⟨by rfl, ?_⟩) ?_ ?_
                         rotate_left; (· intro w'; go_simp; with_reducible rfl); rotate_left; (· simp only [Act.put, q2af_1, q2af_2, q2af_3, i64_w, i32_w]; rfl)
                         refine pure_ (i := 8) (N := some 84) (v := ?_) (a' := ?_) #[true,true,true,true,true,true,true,true,true,false,false,false,false,false,false,false,false,false,false,false] rfl rfl (any_of HT_.out (by kernel_rfl)) (fun _ _ _ h => h) (Or.inl ⟨by rfl, ?_⟩) ?_ ?_
                         rotate_left; (· intro w'; go_simp; with_reducible rfl); rotate_left; (· simp only [Act.put, q2af_1, q2af_2, q2af_3, i64_w, i32_w]; rfl)
                         refine pure_ (i := 9) (N := some 85) (v := ?_) (a' := ?_) #[true,true,true,true,true,true,true,true,true,true,false,false,false,false,false,false,false,false,false,false] rfl rfl (any_of HT_.out (by kernel_rfl)) (fun _ _ _ h => h) (Or.inl ⟨by rfl, ?_⟩) ?_ ?_
                         rotate_left; (· intro w'; go_simp; with_reducible rfl); rotate_left; (· simp only [Act.put, q2af_1, q2af_2, q2af_3, i64_w, i32_w]; rfl)
                         refine pure_ (i := 10) (N := some 86) (v := ?_) (a' := ?_) #[true,true,true,true,true,true,true,true,true,true,true,false,false,false,false,false,false,false,false,false] rfl rfl (any_of HT_.out (by kernel_rfl)) (fun _ _ _ h => h) (Or.inl ⟨by rfl, ?_⟩) ?_ ?_
                         rotate_left; (· intro w'; go_simp; with_reducible rfl); rotate_left; (· simp only [Act.put, q2af_1, q2af_2, q2af_3, i64_w, i32_w]; rfl)
                         refine pure_ (i := 11) (N := some 87) (v := ?_) (a' := ?_) #[true,true,true,true,true,true,true,true,true,true,true,true,false,false,false,false,false,false,false,false] rfl rfl (any_of HT_.out (by kernel_rfl)) (fun _ _ _ h => h) (Or.inl ⟨by rfl, ?_⟩) ?_ ?_
                         rotate_left; (· intro w'; go_simp; with_reducible rfl); rotate_left; (· simp only [Act.put, q2af_1, q2af_2, q2af_3, i64_w, i32_w]; rfl)
                         refine pure_ (i := 13) (N := some 89) (v := ?_) (a' := ?_) #[true,true,true,true,true,true,true,true,true,true,true,true,false,true,false,false,false,false,false,false] rfl rfl (any_of HT_.out (by kernel_rfl)) (fun _ _ _ h => h) (Or.inl ⟨by rfl, ?_⟩) ?_ ?_
                         rotate_left; (· intro w'; go_simp; with_reducible rfl); rotate_left; (· simp only [Act.put, q2af_1, q2af_2, q2af_3, i64_w, i32_w]; rfl)
                         refine pure_ (i := 14) (N := some 90) (v := ?_) (a' := ?_) #[true,true,true,true,true,true,true,true,true,true,true,true,false,true,true,false,false,false,false,false] rfl rfl (any_of HT_.out (by kernel_rfl)) (fun _ _ _ h => h) (Or.inl ⟨by rfl, ?_⟩) ?_ ?_
                         rotate_left; (· intro w'; go_simp; with_reducible rfl); rotate_left; (· simp only [Act.put, q2af_1, q2af_2, q2af_3, i64_w, i32_w]; rfl)
                         refine pure_ (i := 15) (N := some 91) (v := ?_) (a' := ?_) #[true,true,true,true,true,true,true,true,true,true,true,true,false,true,true,true,false,false,false,false] rfl rfl (any_of HT_.out (by kernel_rfl)) (fun _ _ _ h => h) (Or.inl ⟨by rfl, ?_⟩) ?_ ?_
                         rotate_left; (· intro w'; go_simp; with_reducible rfl); rotate_left; (· simp only [Act.put, q2af_1, q2af_2, q2af_3, i64_w, i32_w]; rfl)
                         refine take_ (i := 12) (N := some 88) (v := ?_) (a' := ?_) #[true,true,true,true,true,true,true,true,true,true,true,true,true,true,true,true,false,false,false,false] rfl rfl (take_ofW HT_.out HW_.out (by kernel_rfl)) (fun _ _ _ h => h) (Or.inl ⟨by rfl, ?_⟩) hHeld ?_ ?_
                         rotate_left; (· rintro w' ⟨s0, s1, s2⟩; go_simp; with_reducible rfl); rotate_left; (· simp only [Act.put, q2af_1, q2af_2, q2af_3, i64_w, i32_w]; rfl)
                         refine take_ (i := 16) (N := some 92) (v := ?_) (a' := ?_) #[true,true,true,true,true,true,true,true,true,true,true,true,true,true,true,true,true,false,false,false] rfl rfl (take_ofW HT_.out HW_.out (by kernel_rfl)) (fun _ _ _ h => h) (Or.inl ⟨by rfl, ?_⟩) hHeld ?_ ?_
                         rotate_left; (· rintro w' ⟨s0, s1, s2⟩; go_simp; with_reducible rfl); rotate_left; (· simp only [Act.put, q2af_1, q2af_2, q2af_3, i64_w, i32_w]; rfl)
                         refine pure_ (i := 17) (N := some 93) (v := ?_) (a' := ?_) #[true,true,true,true,true,true,true,true,true,true,true,true,true,true,true,true,true,true,false,false] rfl rfl (any_of HT_.out (by kernel_rfl)) (fun _ _ _ h => h) (Or.inl ⟨by rfl, ?_⟩) ?_ ?_
                         rotate_left; (· intro w'; go_simp; with_reducible rfl); rotate_left; (· simp only [Act.put, q2af_1, q2af_2, q2af_3, i64_w, i32_w]; rfl)
                         refine pure_ (i := 18) (N := some 94) (v := ?_) (a' := ?_) #[true,true,true,true,true,true,true,true,true,true,true,true,true,true,true,true,true,true,true,false] rfl rfl (any_of HT_.out (by kernel_rfl)) (fun _ _ _ h => h) (Or.inl ⟨by rfl, ?_⟩) ?_ ?_
                         rotate_left; (· intro w'; go_simp; with_reducible rfl); rotate_left; (· simp only [Act.put, q2af_1, q2af_2, q2af_3, i64_w, i32_w]; rfl)
                         refine pure_ (i := 19) (N := some 95) (v := ?_) (a' := ?_) #[true,true,true,true,true,true,true,true,true,true,true,true,true,true,true,true,true,true,true,true] rfl rfl (any_of HT_.out (by kernel_rfl)) (fun _ _ _ h => h) (Or.inl ⟨by rfl, ?_⟩) ?_ ?_
                         rotate_left; (· intro w'; go_simp; with_reducible rfl); rotate_left; (· simp only [Act.put, q2af_1, q2af_2, q2af_3, i64_w, i32_w]; rfl)
                         refine done_ (done_of HT_.out (by kernel_rfl)) ?_
                         try go_wp2
                         (try simp only [← hl4_3])
                         go_roundg k3
                         case measure => have := HK1.out; have := HK2.out; have := HK3.out; omega
                         case rel => exact ⟨(x4_3), (x5_3), (x9_3), (wrap64 (x49_3 + 1)), (by first | rfl | simp), (by first | rfl | simp), H', ⟨by have := HK1.out; have := HK2.out; have := HK3.out; omega⟩, ⟨by (try simp only [hl4_3]); exact HO_4.out⟩, ⟨by (try simp only [hl4_3]); exact HO_5.out⟩, ⟨by (try simp only [hl4_3]); exact HO_6.out⟩, ⟨by (try simp only [hl4_3]); (with_reducible repeat (first | refine blk_drewN ?_ _ | refine blk_drew ?_ | refine blk_alloc ?_ _)); exact BK101.out⟩, ⟨by repeat (first | (with_reducible first | exact HB.out | apply below_alloc | apply pw_below_drewN | apply below_drew1 | refine below_set ?_ GE101.out) | exact HB.out)⟩⟩
                       ·
                        rw [if_neg c75] at H
                        exact absurd H (by simp)
                      ·
                       rw [if_neg c74] at H
                       exact absurd H (by simp)
                     ·
                      rw [if_neg c73] at H
                      exact absurd H (by simp)
                   ·
                    rw [if_neg c70] at H
                    have c70b0 : decide (0 < (rd x4_3 x49_3)) = false := decide_eq_false c70
                    clear c70
                    have H' := Aside0.mk H
                    clear H
                    have p121 : 0 ≤ (x49_3 : Int) := of_decide_eq_true (by assumption)
                    have q121 : x49_3 < (l0_1.length : Int) := of_decide_eq_true (by assumption)
                    obtain ⟨ad121, e121, hx121_0⟩ := Kd.at_int HR0_1.out x49_3 p121 q121
                    cases e121
                    replace hx121_0 := (HB.out.cell (World.block_lt_of_cell? w _ hx121_0)).trans hx121_0
                    replace p121 := eq_true p121
                    replace q121 := eq_true q121
                    try go_wp2
                    have n0_ := Aside0.mk (Kd.R_drew HO_4.out)
                    have n1_ := Aside0.mk (Kd.R_drew HO_5.out)
                    have n2_ := Aside0.mk (Kd.R_drew HO_6.out)
                    have n3_ := Aside0.mk (blk_drew BK101.out)
                    have n4_ := Aside0.mk (below_drew1 HB.out)
                    clear HO_4
                    clear HO_5
                    clear HO_6
                    clear BK101
                    clear HB
                    have HO_4 := n0_
                    have HO_5 := n1_
                    have HO_6 := n2_
                    have BK101 := n3_
                    have HB := n4_
                    clear n0_ n1_ n2_ n3_ n4_
                    have p129 : 0 ≤ (x49_3 : Int) := of_decide_eq_true (by assumption)
                    have q129 : x49_3 < (x4_3.length : Int) := of_decide_eq_true (by assumption)
                    obtain ⟨ad129, e129, hx129_0⟩ := Kd.at_int (Kd.R_reads' HO_4.out).2.2 x49_3 p129 q129
                    cases e129
                    replace p129 := eq_true p129
                    replace q129 := eq_true q129
                    refine start_ (n := 20) (S := fun w' => w'.cell? (ad129.add (x49_3).toNat) = some (.int .i64 (rd x4_3 x49_3))) (ds := []) #[false,false,false,false,false,false,false,false,false,false,false,false,false,false,false,false,false,false,false,false] (by kernel_rfl) rfl rfl (hx129_0) (fun hHeld => ?_); refine with_tabW impl_Jobs_earliest.tab19 impl_Jobs_earliest.bits19 (fun HT_ HW_ => ?_)
                    generalize wr.drew = w81 at HO_4 HO_5 HO_6 BK101 HB hx129_0 hHeld ⊢
                    refine pure_ (i := 0) (N := some 76) (v := ?_) (a' := ?_) #[true,false,false,false,false,false,false,false,false,false,false,false,false,false,false,false,false,false,false,false] rfl rfl (any_of HT_.out (by kernel_rfl)) (fun _ _ _ h => h) (Or.inl ⟨by rfl, ?_⟩) ?_ ?_
                    rotate_left; (· intro w'; go_simp; with_reducible rfl); rotate_left; (· simp only [Act.put, q2af_1, q2af_2, q2af_3, i64_w, i32_w]; rfl)
                    refine pure_ (i := 1) (N := some 77) (v := ?_) (a' := ?_) #[true,true,false,false,false,false,false,false,false,false,false,false,false,false,false,false,false,false,false,false] rfl rfl (any_of HT_.out (by kernel_rfl)) (fun _ _ _ h => h) (Or.inl ⟨by rfl, ?_⟩) ?_ ?_
                    rotate_left; (· intro w'; go_simp; with_reducible rfl); rotate_left; (· simp only [Act.put, q2af_1, q2af_2, q2af_3, i64_w, i32_w]; rfl)
                    refine pure_ (i := 2) (N := some 78) (v := ?_) (a' := ?_) #[true,true,true,false,false,false,false,false,false,false,false,false,false,false,false,false,false,false,false,false] rfl rfl (any_of HT_.out (by kernel_rfl)) (fun _ _ _ h => h) (Or.inl ⟨by rfl, ?_⟩) ?_ ?_
                    rotate_left; (· intro w'; go_simp; with_reducible rfl); rotate_left; (· simp only [Act.put, q2af_1, q2af_2, q2af_3, i64_w, i32_w]; rfl)
                    refine take_ (i := 3) (N := some 79) (v := ?_) (a' := ?_) #[true,true,true,true,false,false,false,false,false,false,false,false,false,false,false,false,false,false,false,false] rfl rfl (take_ofW HT_.out HW_.out (by kernel_rfl)) (fun _ _ _ h => h) (Or.inl ⟨by rfl, ?_⟩) hHeld ?_ ?_
                    rotate_left
                    ·
                     intro w' s0
                     go_simp
                     with_reducible rfl
                    rotate_left
                    ·
                     simp only [Act.put, q2af_1, q2af_2, q2af_3, i64_w, i32_w]
                     rfl
                    refine pure_ (i := 4) (N := some 80) (v := ?_) (a' := ?_) #[true,true,true,true,true,false,false,false,false,false,false,false,false,false,false,false,false,false,false,false] rfl rfl (any_of HT_.out (by kernel_rfl)) (fun _ _ _ h => h) (Or.inl ⟨by rfl, ?_⟩) ?_ ?_
                    rotate_left; (· intro w'; go_simp; with_reducible rfl); rotate_left; (· simp only [Act.put, q2af_1, q2af_2, q2af_3, i64_w, i32_w]; rfl)
                    refine pure_ (i := 5) (N := some 81) (v := ?_) (a' := ?_) #[true,true,true,true,true,true,false,false,false,false,false,false,false,false,false,false,false,false,false,false] rfl rfl (any_of HT_.out (by kernel_rfl)) (fun _ _ _ h => h) (Or.inl ⟨by rfl, ?_⟩) ?_ ?_
                    rotate_left; (· intro w'; go_simp; with_reducible rfl); rotate_left; (· simp only [Act.put, q2af_1, q2af_2, q2af_3, i64_w, i32_w]; rfl)
                    refine pure_ (i := 6) (N := some 82) (v := undef) (a' := ?_) #[true,true,true,true,true,true,true,false,false,false,false,false,false,false,false,false,false,false,false,false] rfl rfl (any_of HT_.out (by kernel_rfl)) (fun _ _ _ h => h) (Or.inr ⟨by rfl, rfl⟩) ?_ ?_
                    rotate_left
                    ·
                     simp only [Act.put, q2af_1, q2af_2, q2af_3, i64_w, i32_w]
                     rfl
                    refine pure_ (i := 7) (N := some 83) (v := undef) (a' := ?_) #[true,true,true,true,true,true,true,true,false,false,false,false,false,false,false,false,false,false,false,false] rfl rfl (any_of HT_.out (by kernel_rfl)) (fun _ _ _ h => h) (Or.inr ⟨by rfl, rfl⟩) ?_ ?_
                    rotate_left
                    ·
                     simp only [Act.put, q2af_1, q2af_2, q2af_3, i64_w, i32_w]
                     rfl
                    refine pure_ (i := 8) (N := some 84) (v := undef) (a' := ?_) #[true,true,true,true,true,true,true,true,true,false,false,false,false,false,false,false,false,false,false,false] rfl rfl (any_of HT_.out (by kernel_rfl)) (fun _ _ _ h => h) (Or.inr ⟨by rfl, rfl⟩) ?_ ?_
                    rotate_left
                    ·
                     simp only [Act.put, q2af_1, q2af_2, q2af_3, i64_w, i32_w]
                     rfl
                    refine pure_ (i := 9) (N := some 85) (v := undef) (a' := ?_) #[true,true,true,true,true,true,true,true,true,true,false,false,false,false,false,false,false,false,false,false] rfl rfl (any_of HT_.out (by kernel_rfl)) (fun _ _ _ h => h) (Or.inr ⟨by rfl, rfl⟩) ?_ ?_
                    rotate_left
                    ·
                     simp only [Act.put, q2af_1, q2af_2, q2af_3, i64_w, i32_w]
                     rfl
                    refine pure_ (i := 10) (N := some 86) (v := undef) (a' := ?_) #[true,true,true,true,true,true,true,true,true,true,true,false,false,false,false,false,false,false,false,false] rfl rfl (any_of HT_.out (by kernel_rfl)) (fun _ _ _ h => h) (Or.inr ⟨by rfl, rfl⟩) ?_ ?_
                    rotate_left
                    ·
                     simp only [Act.put, q2af_1, q2af_2, q2af_3, i64_w, i32_w]
                     rfl
                    refine pure_ (i := 11) (N := some 87) (v := undef) (a' := ?_) #[true,true,true,true,true,true,true,true,true,true,true,true,false,false,false,false,false,false,false,false] rfl rfl (any_of HT_.out (by kernel_rfl)) (fun _ _ _ h => h) (Or.inr ⟨by rfl, rfl⟩) ?_ ?_
                    rotate_left
                    ·
                     simp only [Act.put, q2af_1, q2af_2, q2af_3, i64_w, i32_w]
                     rfl
                    refine pure_ (i := 12) (N := some 88) (v := undef) (a' := ?_) #[true,true,true,true,true,true,true,true,true,true,true,true,true,false,false,false,false,false,false,false] rfl rfl (any_of HT_.out (by kernel_rfl)) (fun _ _ _ h => h) (Or.inr ⟨by rfl, rfl⟩) ?_ ?_
                    rotate_left
                    ·
                     simp only [Act.put, q2af_1, q2af_2, q2af_3, i64_w, i32_w]
                     rfl
                    refine pure_ (i := 13) (N := some 89) (v := undef) (a' := ?_) #[true,true,true,true,true,true,true,true,true,true,true,true,true,true,false,false,false,false,false,false] rfl rfl (any_of HT_.out (by kernel_rfl)) (fun _ _ _ h => h) (Or.inr ⟨by rfl, rfl⟩) ?_ ?_
                    rotate_left
                    ·
                     simp only [Act.put, q2af_1, q2af_2, q2af_3, i64_w, i32_w]
                     rfl
                    refine pure_ (i := 14) (N := some 90) (v := undef) (a' := ?_) #[true,true,true,true,true,true,true,true,true,true,true,true,true,true,true,false,false,false,false,false] rfl rfl (any_of HT_.out (by kernel_rfl)) (fun _ _ _ h => h) (Or.inr ⟨by rfl, rfl⟩) ?_ ?_
                    rotate_left
                    ·
                     simp only [Act.put, q2af_1, q2af_2, q2af_3, i64_w, i32_w]
                     rfl
                    refine pure_ (i := 15) (N := some 91) (v := undef) (a' := ?_) #[true,true,true,true,true,true,true,true,true,true,true,true,true,true,true,true,false,false,false,false] rfl rfl (any_of HT_.out (by kernel_rfl)) (fun _ _ _ h => h) (Or.inr ⟨by rfl, rfl⟩) ?_ ?_
                    rotate_left
                    ·
                     simp only [Act.put, q2af_1, q2af_2, q2af_3, i64_w, i32_w]
                     rfl
                    refine pure_ (i := 16) (N := some 92) (v := undef) (a' := ?_) #[true,true,true,true,true,true,true,true,true,true,true,true,true,true,true,true,true,false,false,false] rfl rfl (any_of HT_.out (by kernel_rfl)) (fun _ _ _ h => h) (Or.inr ⟨by rfl, rfl⟩) ?_ ?_
                    rotate_left
                    ·
                     simp only [Act.put, q2af_1, q2af_2, q2af_3, i64_w, i32_w]
                     rfl
                    refine pure_ (i := 17) (N := some 93) (v := undef) (a' := ?_) #[true,true,true,true,true,true,true,true,true,true,true,true,true,true,true,true,true,true,false,false] rfl rfl (any_of HT_.out (by kernel_rfl)) (fun _ _ _ h => h) (Or.inr ⟨by rfl, rfl⟩) ?_ ?_
                    rotate_left
                    ·
                     simp only [Act.put, q2af_1, q2af_2, q2af_3, i64_w, i32_w]
                     rfl
                    refine pure_ (i := 18) (N := some 94) (v := undef) (a' := ?_) #[true,true,true,true,true,true,true,true,true,true,true,true,true,true,true,true,true,true,true,false] rfl rfl (any_of HT_.out (by kernel_rfl)) (fun _ _ _ h => h) (Or.inr ⟨by rfl, rfl⟩) ?_ ?_
                    rotate_left
                    ·
                     simp only [Act.put, q2af_1, q2af_2, q2af_3, i64_w, i32_w]
                     rfl
                    refine pure_ (i := 19) (N := some 95) (v := ?_) (a' := ?_) #[true,true,true,true,true,true,true,true,true,true,true,true,true,true,true,true,true,true,true,true] rfl rfl (any_of HT_.out (by kernel_rfl)) (fun _ _ _ h => h) (Or.inl ⟨by rfl, ?_⟩) ?_ ?_
                    rotate_left; (· intro w'; go_simp; with_reducible rfl); rotate_left; (· simp only [Act.put, q2af_1, q2af_2, q2af_3, i64_w, i32_w]; rfl)
                    refine done_ (done_of HT_.out (by kernel_rfl)) ?_
                    try go_wp2
                    (try simp only [← hl4_3])
                    go_roundg k3
                    case measure => have := HK1.out; have := HK2.out; have := HK3.out; omega
                    case rel => exact ⟨(x4_3), (x5_3), (x9_3), (wrap64 (x49_3 + 1)), (by first | rfl | simp), (by first | rfl | simp), H', ⟨by have := HK1.out; have := HK2.out; have := HK3.out; omega⟩, ⟨by (try simp only [hl4_3]); exact HO_4.out⟩, ⟨by (try simp only [hl4_3]); exact HO_5.out⟩, ⟨by (try simp only [hl4_3]); exact HO_6.out⟩, ⟨by (try simp only [hl4_3]); (with_reducible repeat (first | refine blk_drewN ?_ _ | refine blk_drew ?_ | refine blk_alloc ?_ _)); exact BK101.out⟩, ⟨by repeat (first | (with_reducible first | exact HB.out | apply below_alloc | apply pw_below_drewN | apply below_drew1 | refine below_set ?_ GE101.out) | exact HB.out)⟩⟩
                  ·
                   rw [if_neg c69] at H
                   exact absurd H (by simp)
               ·
                rw [if_neg c35] at H
                exact absurd H (by simp)
              ·
               rw [if_neg c34] at H
               exact absurd H (by simp)
             ·
              rw [if_neg c33] at H
              have c33b0 : decide (x49_3 < (l0_1.length : Int)) = false := decide_eq_false c33
              clear c33
              by_cases c82 : x9_3 = (-1)
              ·
               rw [if_pos c82] at H
               have c82b0 : (x9_3 == (-1)) = true := beq_iff_eq.mpr c82
               have c82b1 : (x9_3 != (-1)) = false := bne_eq_false_iff_eq.mpr c82
               clear c82
               by_cases c83 : x6_1.length < 17592186044416
               ·
                rw [if_pos c83] at H
                have LMc83 := Aside0.mk c83
                clear c83
                obtain ⟨y113, hy113⟩ : ∃ y_ : List Int, y_ = (x6_1 ++ [x9_3]) := ⟨_, rfl⟩
                replace H : (impl_Jobs_earliest.l0 k3 x4_3 x5_3 y113 (wrap64 (x7_1 + 1)) l0_0 l0_1 l0_2) = some (r1, r2) := by first | (rw [hy113]; with_reducible exact H) | (have H2_ := (Option.bind_some _ _).symm.trans H; rw [hy113]; with_reducible exact H2_) | (have H2_ := (Option.bind_some _ _).symm.trans H; with_reducible exact H2_) | with_reducible exact H | (rw [hy113]; exact H) | exact H
                have Ny113 := Aside0.mk hy113
                clear hy113
                have H' := Aside0.mk H
                clear H
                go_wp2_with (first | ((with_reducible refine gate_builtin (b := .append) (xs := #[.tmp 106, .tmp 108]) rfl ?_); at_builtin; refine Kd.R_append (Kd.int .i64) (w0 := w) w.heap.size rfl (.tmp 106) (.tmp 108) 22 2 (.int .i64 0) 8 rfl Try.underlying22 info2 rfl (by decide) (by omega) u6 x6_1 x9_3 [.int .i64 x9_3] (fun k_ => some k_ ≠ (.slice Ao17 x4_3.length co17 : Value).ownBlock ∧ some k_ ≠ (v108 : Value).ownBlock) (fun _ => False) rfl rfl ?aP (fun _ hk => hk.elim) ?aF ?aO ?aB ?aS ?aL ?_; (case aP => exact rfl); (case aB => exact (by repeat (first | (with_reducible first | exact HB.out | apply below_alloc | apply pw_below_drewN | apply below_drew1 | refine below_set ?_ GE101.out) | exact HB.out))); (case aF => exact (fun k_ hk => ⟨Kd.fresh' (Kd.R_lt (by exact HO_4.out)) k_ hk, Kd.fresh' (Kd.R_lt (by exact HO_5.out)) k_ hk⟩)); (case aO => exact (by exact HO_6.out)); (case aS => exact (below_size (by repeat (first | (with_reducible first | exact HB.out | apply below_alloc | apply pw_below_drewN | apply below_drew1 | refine below_set ?_ GE101.out) | exact HB.out)))); (case aL => have := LMc83.out; omega); intro v114 w84 ho hb hg hat; rw [← Ny113.out] at ho; have n0_ := Aside0.mk (Kd.R_after (ok := (fun k_ => some k_ ≠ (v108 : Value).ownBlock)) (by exact HO_4.out) hg hat); have n1_ := Aside0.mk (Kd.R_after (ok := (fun k_ => some k_ ≠ (.slice Ao17 x4_3.length co17 : Value).ownBlock)) (by exact HO_5.out) hg hat); have n2_ := Aside0.mk (blk_grown (g := gb101) (o := .cells #[.slice A0_0 l0_0.length c0_0, .slice A0_1 l0_1.length c0_1, .slice A0_2 l0_2.length c0_2] 32 (0, 0)) (by (with_reducible repeat (first | refine blk_drewN ?_ _ | refine blk_drew ?_ | refine blk_alloc ?_ _)); exact BK101.out) hg (Kd.R_ne HO_6.out BK101.out (by decide))); have n3_ := Aside0.mk (hb); have n4_ := Aside0.mk (ho); clear HO_4; clear HO_5; clear BK101; clear HB; clear HO_6; have HO_4 := n0_; have HO_5 := n1_; have BK101 := n2_; have HB := n3_; have HO115 := n4_; clear n0_ n1_ n2_ n3_ n4_; clear ho hb hg hat))
                (try simp only [← hl4_3])
                go_roundg k3
                case measure => have := HK1.out; have := HK2.out; have := HK3.out; omega
                case rel => exact ⟨(x4_3), (x5_3), (y113), (wrap64 (x7_1 + 1)), (by first | rfl | simp), H', ⟨by have := HK1.out; have := HK2.out; have := HK3.out; omega⟩, ⟨by (try simp only [hl4_3]); exact HO_4.out⟩, ⟨by (try simp only [hl4_3]); exact HO_5.out⟩, ⟨by (try simp only [hl4_3]); exact HO115.out⟩, ⟨by (try simp only [hl4_3]); (with_reducible repeat (first | refine blk_drewN ?_ _ | refine blk_drew ?_ | refine blk_alloc ?_ _)); exact BK101.out⟩, ⟨by repeat (first | (with_reducible first | exact HB.out | apply below_alloc | apply pw_below_drewN | apply below_drew1 | refine below_set ?_ GE101.out) | exact HB.out)⟩⟩
               ·
                rw [if_neg c83] at H
                exact absurd H (by simp)
              ·
               rw [if_neg c82] at H
               have c82b0 : (x9_3 == (-1)) = false := beq_eq_false_iff_ne.mpr c82
               have c82b1 : (x9_3 != (-1)) = true := bne_iff_ne.mpr c82
               by_cases c85 : 0 ≤ x9_3
               ·
                rw [if_pos c85] at H
                have c85b0 : decide (0 ≤ x9_3) = true := decide_eq_true c85
                clear c85
                by_cases c86 : x9_3 < (x4_3.length : Int)
                ·
                 rw [if_pos c86] at H
                 have c86b0 : decide (x9_3 < (x4_3.length : Int)) = true := decide_eq_true c86
                 clear c86
                 obtain ⟨y117, hy117⟩ : ∃ y_ : List Int, y_ = (x4_3.set (x9_3 : Int).toNat (wrap64 ((rd x4_3 x9_3) - 1))) := ⟨_, rfl⟩
                 replace H : (if x6_1.length < 17592186044416 then (impl_Jobs_earliest.l0 k3 y117 x5_3 (x6_1 ++ [x9_3]) (wrap64 (x7_1 + 1)) l0_0 l0_1 l0_2) else (none)) = some (r1, r2) := by first | (rw [hy117]; with_reducible exact H) | (have H2_ := (Option.bind_some _ _).symm.trans H; rw [hy117]; with_reducible exact H2_) | (have H2_ := (Option.bind_some _ _).symm.trans H; with_reducible exact H2_) | with_reducible exact H | (rw [hy117]; exact H) | exact H
                 have Ny117 := Aside0.mk hy117
                 clear hy117
                 by_cases c88 : x6_1.length < 17592186044416
                 ·
                  rw [if_pos c88] at H
                  have LMc88 := Aside0.mk c88
                  clear c88
                  obtain ⟨y118, hy118⟩ : ∃ y_ : List Int, y_ = (x6_1 ++ [x9_3]) := ⟨_, rfl⟩
                  replace H : (impl_Jobs_earliest.l0 k3 y117 x5_3 y118 (wrap64 (x7_1 + 1)) l0_0 l0_1 l0_2) = some (r1, r2) := by first | (rw [hy118]; with_reducible exact H) | (have H2_ := (Option.bind_some _ _).symm.trans H; rw [hy118]; with_reducible exact H2_) | (have H2_ := (Option.bind_some _ _).symm.trans H; with_reducible exact H2_) | with_reducible exact H | (rw [hy118]; exact H) | exact H
                  have Ny118 := Aside0.mk hy118
                  clear hy118
                  have H' := Aside0.mk H
                  clear H
                  have p116 : 0 ≤ (x9_3 : Int) := of_decide_eq_true (by assumption)
                  have q116 : x9_3 < (x4_3.length : Int) := of_decide_eq_true (by assumption)
                  obtain ⟨ad116, e116, hx116_0⟩ := Kd.at_int (Kd.R_reads' HO_4.out).2.2 x9_3 p116 q116
                  cases e116
                  replace p116 := eq_true p116
                  replace q116 := eq_true q116
                  have p87 : 0 ≤ (x9_3 : Int) := of_decide_eq_true (by assumption)
                  have q87 : (x9_3 : Int) < ((x4_3.length : Int) : Int) := of_decide_eq_true (by assumption)
                  obtain ⟨go87, co87, eo87, gb87, gl87, cl87, HG87⟩ := Kd.R_form HO_4.out (by omega)
                  (first | cases eo87 | (injection eo87 with ea_ en_ ec_; (first | subst ea_ | (injection ea_ with ea_; subst ea_)); subst ec_; clear en_))
                  have GB87 := Aside0.mk gb87
                  have GG87 := Aside0.mk HG87
                  clear gb87 gl87 HG87
                  (first | simp only [add_plain] at hx116_0 | skip)
                  obtain ⟨hx87_0, hf87_0⟩ := Kd.R_celln 0 HO_4.out (x9_3 : Int) p87 q87
                  replace p87 := eq_true p87
                  replace q87 := eq_true q87
                  have HP89 := Kd.R_putg HO_4.out (x9_3 : Int) (wrap64 ((rd x4_3 x9_3) - 1))
                  go_wp2_with (first | ((with_reducible refine gate_store (t := 2) (p := 105) rfl ?_); refine store_event (t := 2) (p := 105) (v := ?vo_w90) (w1 := (wr.setCell ⟨go87, (x9_3 : Int).toNat, none⟩ (.int .i64 (wrap64 ((rd x4_3 x9_3) - 1))))) ?hg ?ho ?hn ?hr ?_; (case ho => rfl); (case hg => rfl); (case hn => rfl); (case hr => first | (go_simp; done) | (go_simp; rfl)); intro w90 hw; have hg : wr.grownBy w90 (some go87) := (by rw [hw]; exact HP89.2); have hp_ : Kd.R (Kd.int .i64) 2 w90 w.heap.size (fun k_ => some k_ ≠ (v108 : Value).ownBlock ∧ some k_ ≠ (u6 : Value).ownBlock) (.slice (some ⟨go87, 0, none⟩) x4_3.length co17) y117 := (by rw [hw, Ny117.out]; exact HP89.1); clear HP89; have n0_ := Aside0.mk (hp_); have n1_ := Aside0.mk (Kd.R_after (v := (.slice (some ⟨go87, 0, none⟩) x4_3.length co17)) (v1 := (.slice (some ⟨go87, 0, none⟩) x4_3.length co17)) (ok := (fun k_ => some k_ ≠ (u6 : Value).ownBlock)) (by exact Kd.R_mono HO_5.out (fun _ hk => ⟨hk.2, hk.1⟩)) hg (.inl rfl)); have n2_ := Aside0.mk (Kd.R_after (v := (.slice (some ⟨go87, 0, none⟩) x4_3.length co17)) (v1 := (.slice (some ⟨go87, 0, none⟩) x4_3.length co17)) (ok := (fun k_ => some k_ ≠ (v108 : Value).ownBlock)) (by exact Kd.R_mono HO_6.out (fun _ hk => ⟨hk.2, hk.1⟩)) hg (.inl rfl)); have n3_ := Aside0.mk (blk_grown (g := gb101) (o := .cells #[.slice A0_0 l0_0.length c0_0, .slice A0_1 l0_1.length c0_1, .slice A0_2 l0_2.length c0_2] 32 (0, 0)) (by (with_reducible repeat (first | refine blk_drewN ?_ _ | refine blk_drew ?_ | refine blk_alloc ?_ _)); exact BK101.out) hg (Kd.R_ne HO_4.out BK101.out (by decide))); have n4_ := Aside0.mk ((by rw [hw]; exact below_set (HB.out) GB87.out : Below w.heap.size w w90)); clear HO_4; clear HO_5; clear HO_6; clear BK101; clear HB; have HO_4 := n0_; have HO_5 := n1_; have HO_6 := n2_; have BK101 := n3_; have HB := n4_; clear n0_ n1_ n2_ n3_ n4_; clear hg hw hp_) | ((with_reducible refine gate_builtin (b := .append) (xs := #[.tmp 106, .tmp 108]) rfl ?_); at_builtin; refine Kd.R_append (Kd.int .i64) (w0 := w) w.heap.size rfl (.tmp 106) (.tmp 108) 22 2 (.int .i64 0) 8 rfl Try.underlying22 info2 rfl (by decide) (by omega) u6 x6_1 x9_3 [.int .i64 x9_3] (fun k_ => some k_ ≠ (.slice (some ⟨go87, 0, none⟩) x4_3.length co17 : Value).ownBlock ∧ some k_ ≠ (v108 : Value).ownBlock) (fun _ => False) rfl rfl ?aP (fun _ hk => hk.elim) ?aF ?aO ?aB ?aS ?aL ?_; (case aP => exact rfl); (case aB => exact (by repeat (first | (with_reducible first | exact HB.out | apply below_alloc | apply pw_below_drewN | apply below_drew1 | refine below_set ?_ GE101.out) | exact HB.out))); (case aF => exact (fun k_ hk => ⟨Kd.fresh' (Kd.R_lt (by exact HO_4.out)) k_ hk, Kd.fresh' (Kd.R_lt (by exact HO_5.out)) k_ hk⟩)); (case aO => exact (by exact Kd.R_mono HO_6.out (fun _ hk => ⟨hk.2, hk.1⟩))); (case aS => exact (below_size (by repeat (first | (with_reducible first | exact HB.out | apply below_alloc | apply pw_below_drewN | apply below_drew1 | refine below_set ?_ GE101.out) | exact HB.out)))); (case aL => have := LMc88.out; omega); intro v119 w91 ho hb hg hat; rw [← Ny118.out] at ho; have n0_ := Aside0.mk (Kd.R_after (ok := (fun k_ => some k_ ≠ (v108 : Value).ownBlock)) (by exact HO_4.out) hg hat); have n1_ := Aside0.mk (Kd.R_after (ok := (fun k_ => some k_ ≠ (.slice (some ⟨go87, 0, none⟩) x4_3.length co17 : Value).ownBlock)) (by exact Kd.R_mono HO_5.out (fun _ hk => ⟨hk.2, hk.1⟩)) hg hat); have n2_ := Aside0.mk (blk_grown (g := gb101) (o := .cells #[.slice A0_0 l0_0.length c0_0, .slice A0_1 l0_1.length c0_1, .slice A0_2 l0_2.length c0_2] 32 (0, 0)) (by (with_reducible repeat (first | refine blk_drewN ?_ _ | refine blk_drew ?_ | refine blk_alloc ?_ _)); exact BK101.out) hg (Kd.R_ne HO_6.out BK101.out (by decide))); have n3_ := Aside0.mk (hb); have n4_ := Aside0.mk (ho); clear HO_4; clear HO_5; clear BK101; clear HB; clear HO_6; have HO_4 := n0_; have HO_5 := n1_; have BK101 := n2_; have HB := n3_; have HO120 := n4_; clear n0_ n1_ n2_ n3_ n4_; clear ho hb hg hat))
                  (try simp only [← hl4_3])
                  go_roundg k3
                  case measure => have := HK1.out; have := HK2.out; have := HK3.out; omega
                  case rel => exact ⟨(y117), (x5_3), (y118), (wrap64 (x7_1 + 1)), (by first | rfl | simp), H', ⟨by have := HK1.out; have := HK2.out; have := HK3.out; omega⟩, ⟨by (try simp only [hl4_3]); exact HO_4.out⟩, ⟨by (try simp only [hl4_3]); exact HO_5.out⟩, ⟨by (try simp only [hl4_3]); exact HO120.out⟩, ⟨by (try simp only [hl4_3]); (with_reducible repeat (first | refine blk_drewN ?_ _ | refine blk_drew ?_ | refine blk_alloc ?_ _)); exact BK101.out⟩, ⟨by repeat (first | (with_reducible first | exact HB.out | apply below_alloc | apply pw_below_drewN | apply below_drew1 | refine below_set ?_ GE101.out) | exact HB.out)⟩⟩
                 ·
                  rw [if_neg c88] at H
                  exact absurd H (by simp)
                ·
                 rw [if_neg c86] at H
                 exact absurd H (by simp)
               ·
                rw [if_neg c85] at H
                exact absurd H (by simp)
    ·
     rw [if_neg c7] at H
     exact absurd H (by simp)
   ·
    rw [if_neg c6] at H
    exact absurd H (by simp)
  ·
   rw [if_neg c4] at H
   exact absurd H (by simp)
 ·
  rw [if_neg c3] at H
  exact absurd H (by simp)
end Go.Proofs.Ytjkgjmaldbmgmaa.P
end
section
namespace Go.Proofs.Ytjkgjmaldbmgmaa.P
open Go.RowKit Go.Proofs.YtjkgjmaldbmgmaaW.PrintWords Go.Proofs.YtjkgjmaldbmgmaaW.PrintLast Go.Proofs.YtjkgjmaldbmgmaaW.PrintMore
attribute [local go_sem] max2_int min2_int max_two min_two max_three min_three max_four min_four   -- for this text's walks alone
set_option linter.unusedVariables false
set_option linter.unusedSimpArgs false
end Go.Proofs.Ytjkgjmaldbmgmaa.P
end
