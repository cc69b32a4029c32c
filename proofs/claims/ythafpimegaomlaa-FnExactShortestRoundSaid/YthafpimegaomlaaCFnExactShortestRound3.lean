/- The program's ShortestRound returns what the reference's returns, for all arguments; no condition beside. -/
import Derived.Test.YthafpimegaomlaaCFnExactShortestRound2
section
namespace Go.Proofs.Ythafpimegaomlaa.P
open Go.RowKit Go.Proofs.YthafpimegaomlaaW.PrintWords Go.Proofs.YthafpimegaomlaaW.PrintLast Go.Proofs.YthafpimegaomlaaW.PrintMore
attribute [local go_sem] max2_int min2_int max_two min_two max_three min_three max_four min_four   -- for this text's walks alone
set_option linter.unusedVariables false
set_option linter.unusedSimpArgs false
set_option maxHeartbeats 80000000 in
set_option maxRecDepth 100000 in
theorem spec_ShortestRound.calls (k : Nat) (a0_0 : Int) (a0_1 : Int) (r1 : Int) (r2 : Int) (w : World) (h : spec_ShortestRound.f k a0_0 a0_1 = some (r1, r2)) :
  Calls Try.prog 4 #[.agg #[.int .i64 a0_0, .int .i64 a0_1]] w fun e w' => e = .returned (.tuple #[.int .i64 r1, .int .i64 r2]) ∧ Below w.heap.size w w' := by
 have hu26 := Try.underlying26
 have HB := Aside0.mk (Below.refl w.heap.size w)
 have H : ((spec_l09Is.f a0_0 a0_1).bind fun t102 => (if t102 = true then (if 0 ≤ (IntKind.u64.wrap (a0_0)) then (if 0 ≤ (shl .i64 a0_0 (IntKind.u64.wrap (a0_0))) then (if (shl .i64 a0_0 (IntKind.u64.wrap (a0_0)) : Int).toNat ≤ 35184372088832 then ((some (List.replicate (shl .i64 a0_0 (IntKind.u64.wrap (a0_0)) : Int).toNat 0 : List Int)).bind fun y103 => (spec_ShortestRound.l0 k a0_0 y103 (y103.length : Int) 0 a0_0 a0_1)) else (none)) else (none)) else (none)) else (some (0, 1)))) = some (r1, r2) := h
 clear h
 replace H := Option.bind_eq_some_iff.mp H
 obtain ⟨t102, A20, H⟩ := H
 replace H : (if t102 = true then (if 0 ≤ (IntKind.u64.wrap (a0_0)) then (if 0 ≤ (shl .i64 a0_0 (IntKind.u64.wrap (a0_0))) then (if (shl .i64 a0_0 (IntKind.u64.wrap (a0_0)) : Int).toNat ≤ 35184372088832 then ((some (List.replicate (shl .i64 a0_0 (IntKind.u64.wrap (a0_0)) : Int).toNat 0 : List Int)).bind fun y103 => (spec_ShortestRound.l0 k a0_0 y103 (y103.length : Int) 0 a0_0 a0_1)) else (none)) else (none)) else (none)) else (some (0, 1))) = some (r1, r2) := H
 have A2 := Aside0.mk A20
 clear A20
 by_cases c3 : t102 = true
 ·
  subst c3
  have H1 : (if 0 ≤ (IntKind.u64.wrap (a0_0)) then (if 0 ≤ (shl .i64 a0_0 (IntKind.u64.wrap (a0_0))) then (if (shl .i64 a0_0 (IntKind.u64.wrap (a0_0)) : Int).toNat ≤ 35184372088832 then ((some (List.replicate (shl .i64 a0_0 (IntKind.u64.wrap (a0_0)) : Int).toNat 0 : List Int)).bind fun y103 => (spec_ShortestRound.l0 k a0_0 y103 (y103.length : Int) 0 a0_0 a0_1)) else (none)) else (none)) else (none)) = some (r1, r2) := by rw [if_pos rfl] at H; exact H
  clear H
  have H := H1
  clear H1
  obtain ⟨ji4, hji4⟩ : ∃ j_ : Int, (IntKind.u64.wrap (a0_0)) = j_ := ⟨_, rfl⟩
  replace H : (if 0 ≤ (ji4) then (if 0 ≤ (shl .i64 a0_0 (ji4)) then (if (shl .i64 a0_0 (ji4) : Int).toNat ≤ 35184372088832 then ((some (List.replicate (shl .i64 a0_0 (ji4) : Int).toNat 0 : List Int)).bind fun y103 => (spec_ShortestRound.l0 k a0_0 y103 (y103.length : Int) 0 a0_0 a0_1)) else (none)) else (none)) else (none)) = some (r1, r2) := by first | (rw [hji4] at H; exact H) | (simp only [hji4] at H ⊢; exact H)
  (try rw [hji4] at A2)
  by_cases c5 : 0 ≤ (ji4)
  ·
   rw [if_pos c5] at H
   have c5b0 := eq_true c5
   have c5b1 : decide (0 ≤ (ji4)) = true := decide_eq_true c5
   clear c5
   obtain ⟨ji6, hji6⟩ : ∃ j_ : Int, (shl .i64 a0_0 (ji4)) = j_ := ⟨_, rfl⟩
   replace H : (if 0 ≤ (ji6) then (if (ji6 : Int).toNat ≤ 35184372088832 then ((some (List.replicate (ji6 : Int).toNat 0 : List Int)).bind fun y103 => (spec_ShortestRound.l0 k a0_0 y103 (y103.length : Int) 0 a0_0 a0_1)) else (none)) else (none)) = some (r1, r2) := by first | (rw [hji6] at H; exact H) | (simp only [hji6] at H ⊢; exact H)
   (try rw [hji6] at A2)
   have hji6_ : (IntKind.i64.wrap (a0_0 * 2 ^ min (ji4).toNat 64)) = ji6 := hji6
   have hji6z : (ji4) ≤ 64 → (IntKind.i64.wrap (a0_0 * 2 ^ (ji4).toNat)) = ji6 := shl_small hji6
   have hji6y : (wrap64 (a0_0 * 2 ^ min (ji4).toNat 64)) = ji6 := (i64_w _).symm.trans hji6_
   have hji6x : (ji4) ≤ 64 → (wrap64 (a0_0 * 2 ^ (ji4).toNat)) = ji6 := fun h_ => (i64_w _).symm.trans (hji6z h_)
   by_cases c7 : 0 ≤ (ji6)
   ·
    rw [if_pos c7] at H
    have c7b0 := eq_true c7
    have c7b1 : decide (0 ≤ (ji6)) = true := decide_eq_true c7
    clear c7
    by_cases c8 : (ji6 : Int).toNat ≤ 35184372088832
    ·
     rw [if_pos c8] at H
     have c8b0 := eq_true c8
     have c8b1 : decide ((ji6 : Int).toNat ≤ 35184372088832) = true := decide_eq_true c8
     clear c8
     obtain ⟨y103, hy103⟩ : ∃ y_ : List Int, y_ = (List.replicate (ji6 : Int).toNat 0) := ⟨_, rfl⟩
     replace H : (spec_ShortestRound.l0 k a0_0 y103 (y103.length : Int) 0 a0_0 a0_1) = some (r1, r2) := by first | (rw [hy103]; with_reducible exact H) | (have H2_ := (Option.bind_some _ _).symm.trans H; rw [hy103]; with_reducible exact H2_) | (have H2_ := (Option.bind_some _ _).symm.trans H; with_reducible exact H2_) | with_reducible exact H | (rw [hy103]; exact H) | exact H
     have Ny103 := Aside0.mk hy103
     clear hy103
     have H' := Aside0.mk H
     clear H
     go_enter Try.func4, Try.ntmps4
     go_wp2_with (first | ((with_reducible refine gate_dst (N := 1) rfl ?_); refine box_event ?hg (N := 1) ?hd (cs := #[.int .i64 a0_0, .int .i64 a0_1]) (t := 26) ?hr ?_; (case hd => rfl); (case hg => rfl); (case hr => first | (go_simp; done) | (go_simp; rfl)); intro gb101 hg w9 hbox hb; have n0_ := Aside0.mk (below_step (by repeat (first | exact HB.out | apply below_alloc | apply pw_below_drewN | apply below_drew1)) hb); have n1_ := Aside0.mk (hbox); have n2_ := Aside0.mk ((by rw [hg]; exact (below_size (by repeat (first | exact HB.out | apply below_alloc | apply pw_below_drewN | apply below_drew1))) : w.heap.size ≤ gb101)); have n3_ := Aside0.mk ((by rw [hg]; exact (below_size (by repeat (first | exact HB.out | apply below_alloc | apply pw_below_drewN | apply below_drew1))) : w.heap.size ≤ gb101)); clear HB; have HB := n0_; have BK101 := n1_; have GW101 := n2_; have GE101 := n3_; clear n0_ n1_ n2_ n3_; clear hb hbox hg; have hcz10_0 : w9.cell? ⟨gb101, 0, none⟩ = some (.int .i64 a0_0) := (blk_cell BK101.out 0).trans rfl; have hcz10_1 : w9.cell? ⟨gb101, 1, none⟩ = some (.int .i64 a0_1) := (blk_cell BK101.out 1).trans rfl; have hfz10_0 := blk_frozen BK101.out 0; have hfz10_1 := blk_frozen BK101.out 1) | ((with_reducible refine gate_callee (f := 7) rfl ?_); refine goesL_ (some 19) rfl rfl Try.func7 (by kernel_rfl) rfl #[.agg #[.int .i64 a0_0, .int .i64 a0_1]] rfl (by (try simp only [List.map_toArray, List.map_cons, List.map_nil]); first | done | rfl | (simp only [List.length_drop, List.length_take]; rfl)) ?_; (with_reducible refine (spec_l09Is.calls a0_0 a0_1 true _ A2.out).mono ?_); rintro e w11 ⟨rfl, hb⟩; refine ⟨_, rfl, ?_⟩; have n0_ := Aside0.mk (blk_below (g := gb101) (o := .cells #[.int .i64 a0_0, .int .i64 a0_1] 26 (0, 0)) (by (with_reducible repeat (first | refine blk_drewN ?_ _ | refine blk_drew ?_ | refine blk_alloc ?_ _)); exact BK101.out) hb); have n1_ := Aside0.mk (below_step (by repeat (first | (with_reducible first | exact HB.out | apply below_alloc | apply pw_below_drewN | apply below_drew1 | refine below_set ?_ GE101.out) | exact HB.out)) hb); clear BK101; clear HB; have BK101 := n0_; have HB := n1_; clear n0_ n1_; (try clear hb); (try clear hb2); (try clear hk); (try clear hi); have hcz12_0 : w11.cell? ⟨gb101, 0, none⟩ = some (.int .i64 a0_0) := (blk_cell BK101.out 0).trans rfl; have hcz12_1 : w11.cell? ⟨gb101, 1, none⟩ = some (.int .i64 a0_1) := (blk_cell BK101.out 1).trans rfl; have hfz12_0 := blk_frozen BK101.out 0; have hfz12_1 := blk_frozen BK101.out 1) | ((with_reducible refine gate_dst (N := 27) rfl ?_); refine Kd.R_make (Kd.int .i64) _ 2 rfl (N := 27) rfl 30 _ _ rfl ji6 rfl rfl Try.underlying30 (.int .i64 0) 8 info2 rfl (by decide) (by omega) 0 (ok := fun _ => True) (okp := fun _ => True) rfl (fun _ hk => hk) trivial (of_decide_eq_true (by assumption)) (Nat.le_trans (Nat.mul_le_mul_right _ (of_decide_eq_true (by assumption) : ji6.toNat ≤ 35184372088832)) (by omega)) (Below.refl _ _) (Nat.le_refl _) ?_; intro v104 w13 ho14 hb hg_ hnew_; clear hg_ hnew_; (first | rw [← Ny103.out] at ho14 | (simp only [Int.reduceToNat] at ho14; rw [← Ny103.out] at ho14)); have n0_ := Aside0.mk (Kd.R_lower ho14 (below_size (by repeat (first | (with_reducible first | exact HB.out | apply below_alloc | apply pw_below_drewN | apply below_drew1 | refine below_set ?_ GE101.out) | exact HB.out)))); have n1_ := Aside0.mk (blk_below (g := gb101) (o := .cells #[.int .i64 a0_0, .int .i64 a0_1] 26 (0, 0)) (by (with_reducible repeat (first | refine blk_drewN ?_ _ | refine blk_drew ?_ | refine blk_alloc ?_ _)); exact BK101.out) hb); have n2_ := Aside0.mk (below_step (by repeat (first | (with_reducible first | exact HB.out | apply below_alloc | apply pw_below_drewN | apply below_drew1 | refine below_set ?_ GE101.out) | exact HB.out)) hb); clear BK101; clear HB; have HO105 := n0_; have BK101 := n1_; have HB := n2_; clear n0_ n1_ n2_; clear hb ho14; obtain ⟨Ao15, co15, eo15⟩ := Kd.R_slice HO105.out; subst eo15))
     go_loopg [30] k (fun kq v30 w' => ∃ (x5_1 : List Int) (x30_1 : Int), v30 = .int .i64 x30_1 ∧ Aside0 (spec_ShortestRound.l0 kq a0_0 x5_1 (y103.length : Int) x30_1 a0_0 a0_1 = some (r1, r2)) ∧ Aside0 (kq ≤ k) ∧ Aside0 (Kd.R (Kd.int .i64) 2 w' w.heap.size (fun _ => True) (.slice Ao15 y103.length co15) x5_1) ∧ Aside0 (w'.heap[gb101]? = some (.cells #[.int .i64 a0_0, .int .i64 a0_1] 26 (0, 0))) ∧ Aside0 (Below w.heap.size w w'))
     case atStart => exact ⟨(y103), (0), (by first | rfl | simp), H', ⟨Nat.le_refl _⟩, ⟨by exact HO105.out⟩, ⟨by (with_reducible repeat (first | refine blk_drewN ?_ _ | refine blk_drew ?_ | refine blk_alloc ?_ _)); exact BK101.out⟩, ⟨by repeat (first | (with_reducible first | exact HB.out | apply below_alloc | apply pw_below_drewN | apply below_drew1 | refine below_set ?_ GE101.out) | exact HB.out)⟩⟩
     case round =>
      clear H'
      try clear p2
      try clear c3
      try clear c4
      try clear c5
      try clear c5b0
      try clear c5b1
      try clear p6
      try clear c7
      try clear c7b0
      try clear c7b1
      try clear c8
      try clear c8b0
      try clear c8b1
      try clear hcz10_0
      try clear hcz10_1
      try clear hcz12_0
      try clear hcz12_1
      try clear hfz10_0
      try clear hfz10_1
      try clear hfz12_0
      try clear hfz12_1
      obtain ⟨x5_1, x30_1, rfl, HA, HK1, HO_5, BK101, HB⟩ := hrel
      have hl5_1 := (Kd.R_reads' HO_5.out).1
      rw [hl5_1] at HO_5
      (try simp only [hl5_1])
      (try simp only [hl5_1] at BK101)
      cases gk with
      | zero => exact absurd HA.out (by simp [spec_ShortestRound.l0])
      | succ k1 =>
       have H := HA.out
       clear HA
       simp only [spec_ShortestRound.l0] at H
       by_cases c16 : x30_1 < (y103.length : Int)
       ·
        rw [if_pos c16] at H
        have c16b0 : decide (x30_1 < (y103.length : Int)) = true := decide_eq_true c16
        clear c16
        by_cases c17 : 0 ≤ x30_1
        ·
         rw [if_pos c17] at H
         have c17b0 : decide (0 ≤ x30_1) = true := decide_eq_true c17
         clear c17
         by_cases c18 : x30_1 < (x5_1.length : Int)
         ·
          rw [if_pos c18] at H
          have c18b0 : decide (x30_1 < (x5_1.length : Int)) = true := decide_eq_true c18
          clear c18
          obtain ⟨y106, hy106⟩ : ∃ y_ : List Int, y_ = (x5_1.set (x30_1 : Int).toNat (-1)) := ⟨_, rfl⟩
          replace H : (spec_ShortestRound.l0 k1 a0_0 y106 (y103.length : Int) (wrap64 (x30_1 + 1)) a0_0 a0_1) = some (r1, r2) := by first | (rw [hy106]; with_reducible exact H) | (have H2_ := (Option.bind_some _ _).symm.trans H; rw [hy106]; with_reducible exact H2_) | (have H2_ := (Option.bind_some _ _).symm.trans H; with_reducible exact H2_) | with_reducible exact H | (rw [hy106]; exact H) | exact H
          have Ny106 := Aside0.mk hy106
          clear hy106
          have H' := Aside0.mk H
          clear H
          have p19 : 0 ≤ (x30_1 : Int) := of_decide_eq_true (by assumption)
          have q19 : (x30_1 : Int) < ((x5_1.length : Int) : Int) := of_decide_eq_true (by assumption)
          obtain ⟨go19, co19, eo19, gb19, gl19, cl19, HG19⟩ := Kd.R_form HO_5.out (by omega)
          (first | cases eo19 | (injection eo19 with ea_ en_ ec_; (first | subst ea_ | (injection ea_ with ea_; subst ea_)); subst ec_; clear en_))
          have GB19 := Aside0.mk gb19
          have GG19 := Aside0.mk HG19
          clear gb19 gl19 HG19
          obtain ⟨hx19_0, hf19_0⟩ := Kd.R_celln 0 HO_5.out (x30_1 : Int) p19 q19
          replace p19 := eq_true p19
          replace q19 := eq_true q19
          have HP20 := Kd.R_putg HO_5.out (x30_1 : Int) (-1)
          go_wp2_with (first | ((with_reducible refine gate_store (t := 2) (p := 35) rfl ?_); refine store_event (t := 2) (p := 35) (v := ?vo_w21) (w1 := (wr.setCell ⟨go19, (x30_1 : Int).toNat, none⟩ (.int .i64 (-1)))) ?hg ?ho ?hn ?hr ?_; (case ho => rfl); (case hg => rfl); (case hn => rfl); (case hr => first | (go_simp; done) | (go_simp; rfl)); intro w21 hw; have hg : wr.grownBy w21 (some go19) := (by rw [hw]; exact HP20.2); have hp_ : Kd.R (Kd.int .i64) 2 w21 w.heap.size (fun _ => True) (.slice (some ⟨go19, 0, none⟩) x5_1.length co15) y106 := (by rw [hw, Ny106.out]; exact HP20.1); clear HP20; have n0_ := Aside0.mk (hp_); have n1_ := Aside0.mk (blk_grown (g := gb101) (o := .cells #[.int .i64 a0_0, .int .i64 a0_1] 26 (0, 0)) (by (with_reducible repeat (first | refine blk_drewN ?_ _ | refine blk_drew ?_ | refine blk_alloc ?_ _)); exact BK101.out) hg (Kd.R_ne HO_5.out BK101.out (by decide))); have n2_ := Aside0.mk ((by rw [hw]; exact below_set (HB.out) GB19.out : Below w.heap.size w w21)); clear HO_5; clear BK101; clear HB; have HO_5 := n0_; have BK101 := n1_; have HB := n2_; clear n0_ n1_ n2_; clear hg hw hp_))
          (try simp only [← hl5_1])
          go_roundg k1
          case measure => have := HK1.out; omega
          case rel => exact ⟨(y106), (wrap64 (x30_1 + 1)), (by first | rfl | simp), H', ⟨by have := HK1.out; omega⟩, ⟨by (try simp only [hl5_1]); exact HO_5.out⟩, ⟨by (try simp only [hl5_1]); (with_reducible repeat (first | refine blk_drewN ?_ _ | refine blk_drew ?_ | refine blk_alloc ?_ _)); exact BK101.out⟩, ⟨by repeat (first | (with_reducible first | exact HB.out | apply below_alloc | apply pw_below_drewN | apply below_drew1 | refine below_set ?_ GE101.out) | exact HB.out)⟩⟩
         ·
          rw [if_neg c18] at H
          exact absurd H (by simp)
        ·
         rw [if_neg c17] at H
         exact absurd H (by simp)
       ·
        rw [if_neg c16] at H
        have c16b0 : decide (x30_1 < (y103.length : Int)) = false := decide_eq_false c16
        (try simp only [hl5_1] at c16b0)
        (try simp only [hl5_2] at c16b0)
        (try simp only [hl5_3] at c16b0)
        (try simp only [hl5_4] at c16b0)
        (try simp only [hl5_5] at c16b0)
        clear c16
        by_cases c22 : 0 ≤ a0_0
        ·
         rw [if_pos c22] at H
         have c22b0 : decide (0 ≤ a0_0) = true := decide_eq_true c22
         clear c22
         by_cases c23 : a0_0 < (x5_1.length : Int)
         ·
          rw [if_pos c23] at H
          have c23b0 : decide (a0_0 < (x5_1.length : Int)) = true := decide_eq_true c23
          clear c23
          obtain ⟨y107, hy107⟩ : ∃ y_ : List Int, y_ = (x5_1.set (a0_0 : Int).toNat 0) := ⟨_, rfl⟩
          replace H : (spec_ShortestRound.l1 k1 a0_0 y107 (([] : List (List Int))) 0 a0_0 a0_1) = some (r1, r2) := by first | (rw [hy107]; with_reducible exact H) | (have H2_ := (Option.bind_some _ _).symm.trans H; rw [hy107]; with_reducible exact H2_) | (have H2_ := (Option.bind_some _ _).symm.trans H; with_reducible exact H2_) | with_reducible exact H | (rw [hy107]; exact H) | exact H
          have Ny107 := Aside0.mk hy107
          clear hy107
          obtain ⟨y108, hy108⟩ : ∃ y_ : List (List Int), y_ = (([] : List (List Int))) := ⟨_, rfl⟩
          replace H : (spec_ShortestRound.l1 k1 a0_0 y107 y108 0 a0_0 a0_1) = some (r1, r2) := by first | (rw [hy108]; with_reducible exact H) | (have H2_ := (Option.bind_some _ _).symm.trans H; rw [hy108]; with_reducible exact H2_) | (have H2_ := (Option.bind_some _ _).symm.trans H; with_reducible exact H2_) | with_reducible exact H | (rw [hy108]; exact H) | exact H
          have Ny108 := Aside0.mk hy108
          clear hy108
          have H' := Aside0.mk H
          clear H
          have p24 : 0 ≤ (a0_0 : Int) := of_decide_eq_true (by assumption)
          have q24 : (a0_0 : Int) < ((x5_1.length : Int) : Int) := of_decide_eq_true (by assumption)
          obtain ⟨go24, co24, eo24, gb24, gl24, cl24, HG24⟩ := Kd.R_form HO_5.out (by omega)
          (first | cases eo24 | (injection eo24 with ea_ en_ ec_; (first | subst ea_ | (injection ea_ with ea_; subst ea_)); subst ec_; clear en_))
          have GB24 := Aside0.mk gb24
          have GG24 := Aside0.mk HG24
          clear gb24 gl24 HG24
          obtain ⟨hx24_0, hf24_0⟩ := Kd.R_celln 0 HO_5.out (a0_0 : Int) p24 q24
          replace p24 := eq_true p24
          replace q24 := eq_true q24
          have HP25 := Kd.R_putg HO_5.out (a0_0 : Int) 0
          go_wp2_with (first | ((with_reducible refine gate_store (t := 2) (p := 39) rfl ?_); refine store_event (t := 2) (p := 39) (v := ?vo_w26) (w1 := (wr.setCell ⟨go24, (a0_0 : Int).toNat, none⟩ (.int .i64 0))) ?hg ?ho ?hn ?hr ?_; (case ho => rfl); (case hg => rfl); (case hn => rfl); (case hr => first | (go_simp; done) | (go_simp; rfl)); intro w26 hw; have hg : wr.grownBy w26 (some go24) := (by rw [hw]; exact HP25.2); have hp_ : Kd.R (Kd.int .i64) 2 w26 w.heap.size (fun _ => True) (.slice (some ⟨go24, 0, none⟩) x5_1.length co15) y107 := (by rw [hw, Ny107.out]; exact HP25.1); clear HP25; have n0_ := Aside0.mk (hp_); have n1_ := Aside0.mk (blk_grown (g := gb101) (o := .cells #[.int .i64 a0_0, .int .i64 a0_1] 26 (0, 0)) (by (with_reducible repeat (first | refine blk_drewN ?_ _ | refine blk_drew ?_ | refine blk_alloc ?_ _)); exact BK101.out) hg (Kd.R_ne HO_5.out BK101.out (by decide))); have n2_ := Aside0.mk ((by rw [hw]; exact below_set (HB.out) GB24.out : Below w.heap.size w w26)); clear HO_5; clear BK101; clear HB; have HO_5 := n0_; have BK101 := n1_; have HB := n2_; clear n0_ n1_ n2_; clear hg hw hp_) | ((with_reducible refine gate_dst (N := 40) rfl ?_); refine Kd.S_lit (Kd.slice 2 (Kd.int .i64)) _ 30 ?hg (N := 40) ?hd (xs := ([] : List (List Int))) (inner := []) (ok := fun _ => True) (okp := fun _ => True) ?hr ?hp (fun _ hk => hk) trivial (Below.refl _ _) (Nat.le_refl _) (by simp) ?_; (case hd => rfl); (case hg => rfl); (case hr => first | (go_simp; done) | (go_simp; rfl)); (case hp => exact (Reps.none _ _)); intro v109 w27 ho28 hb hg_ hnew_; clear hg_ hnew_; (first | rw [← Ny108.out] at ho28 | (simp only [Int.reduceToNat] at ho28; rw [← Ny108.out] at ho28)); have n0_ := Aside0.mk (Kd.R_below (by exact HO_5.out) hb); have n1_ := Aside0.mk (Kd.S_lower (Kd.S_new' ho28 (Kd.R_lt (by exact HO_5.out))) (below_size (by repeat (first | (with_reducible first | exact HB.out | apply below_alloc | apply pw_below_drewN | apply below_drew1 | refine below_set ?_ GE101.out) | exact HB.out)))); have n2_ := Aside0.mk (blk_below (g := gb101) (o := .cells #[.int .i64 a0_0, .int .i64 a0_1] 26 (0, 0)) (by (with_reducible repeat (first | refine blk_drewN ?_ _ | refine blk_drew ?_ | refine blk_alloc ?_ _)); exact BK101.out) hb); have n3_ := Aside0.mk (below_step (by repeat (first | (with_reducible first | exact HB.out | apply below_alloc | apply pw_below_drewN | apply below_drew1 | refine below_set ?_ GE101.out) | exact HB.out)) hb); clear HO_5; clear BK101; clear HB; have HO_5 := n0_; have HO110 := n1_; have BK101 := n2_; have HB := n3_; clear n0_ n1_ n2_ n3_; clear hb ho28))
          go_loopg [7, 8] k1 (fun kq v7 v8 w' => ∃ (x7_2 : List (List Int)) (x8_2 : Int), v8 = .int .i64 x8_2 ∧ Aside0 (spec_ShortestRound.l1 kq a0_0 y107 x7_2 x8_2 a0_0 a0_1 = some (r1, r2)) ∧ Aside0 (kq ≤ k1) ∧ Aside0 (Kd.R (Kd.int .i64) 2 w' w.heap.size (fun _ => True) (.slice (some ⟨go24, 0, none⟩) x5_1.length co15) y107) ∧ Aside0 (Kd.S (Kd.slice 2 (Kd.int .i64)) 30 w' w.heap.size (fun k_ => some k_ ≠ ((.slice (some ⟨go24, 0, none⟩) x5_1.length co15) : Value).ownBlock) v7 x7_2) ∧ Aside0 (w'.heap[gb101]? = some (.cells #[.int .i64 a0_0, .int .i64 a0_1] 26 (0, 0))) ∧ Aside0 (Below w.heap.size w w'))
          case atStart => exact ⟨(y108), (0), (by first | rfl | simp), H', ⟨Nat.le_refl _⟩, ⟨by (try simp only [hl5_1]); exact HO_5.out⟩, ⟨by (try simp only [hl5_1]); (with_reducible repeat (first | apply Kd.S_alloc | apply Kd.S_drewN | apply Kd.S_drew)); exact Kd.S_mono HO110.out (fun _ hk => hk.2)⟩, ⟨by (try simp only [hl5_1]); (with_reducible repeat (first | refine blk_drewN ?_ _ | refine blk_drew ?_ | refine blk_alloc ?_ _)); exact BK101.out⟩, ⟨by repeat (first | (with_reducible first | exact HB.out | apply below_alloc | apply pw_below_drewN | apply below_drew1 | refine below_set ?_ GE101.out) | exact HB.out)⟩⟩
          case round =>
           clear H'
           try clear c1
           try clear p1
           try clear q1
           try clear hx1
           try clear hf1
           try clear c2
           try clear p2
           try clear q2
           try clear hx2
           try clear hf2
           try clear c3
           try clear c4
           try clear c5
           try clear c5b0
           try clear c5b1
           try clear p6
           try clear c7
           try clear c7b0
           try clear c7b1
           try clear c8
           try clear c8b0
           try clear c8b1
           try clear c16
           try clear c16b0
           try clear c17
           try clear c17b0
           try clear c18
           try clear c18b0
           try clear p19
           try clear q19
           try clear hx19
           try clear hf19
           try clear c22
           try clear c22b0
           try clear c23
           try clear c23b0
           try clear p24
           try clear q24
           try clear hx24
           try clear hf24
           try clear hcz10_0
           try clear hcz10_1
           try clear hcz12_0
           try clear hcz12_1
           try clear hfz10_0
           try clear hfz10_1
           try clear hfz12_0
           try clear hfz12_1
           try clear hx19_0
           try clear hx24_0
           try clear p19
           try clear p2
           try clear p24
           try clear p6
           try clear q19
           try clear q24
           obtain ⟨x7_2, x8_2, rfl, HA, HK2, HO_5, HO_7, BK101, HB⟩ := hrel
           have hl5_2 := (Kd.R_reads' HO_5.out).1
           rw [hl5_2] at HO_5
           (try simp only [hl5_2])
           (try simp only [hl5_2] at BK101)
           (try simp only [hl5_2] at HO_7)
           cases gk with
           | zero => exact absurd HA.out (by simp [spec_ShortestRound.l1])
           | succ k2 =>
            have H := HA.out
            clear HA
            simp only [spec_ShortestRound.l1] at H
            by_cases c29 : x8_2 < a0_0
            ·
             rw [if_pos c29] at H
             have c29b0 : decide (x8_2 < a0_0) = true := decide_eq_true c29
             clear c29
             replace H := Option.bind_eq_some_iff.mp H
             obtain ⟨t111, A300, H⟩ := H
             replace H : (if x7_2.length < 5864062014805 then (spec_ShortestRound.l1 k2 a0_0 y107 (x7_2 ++ [t111]) (wrap64 (x8_2 + 1)) a0_0 a0_1) else (none)) = some (r1, r2) := H
             have A30 := Aside0.mk A300
             clear A300
             by_cases c31 : x7_2.length < 5864062014805
             ·
              rw [if_pos c31] at H
              have LMc31 := Aside0.mk c31
              clear c31
              obtain ⟨y114, hy114⟩ : ∃ y_ : List (List Int), y_ = (x7_2 ++ [t111]) := ⟨_, rfl⟩
              replace H : (spec_ShortestRound.l1 k2 a0_0 y107 y114 (wrap64 (x8_2 + 1)) a0_0 a0_1) = some (r1, r2) := by first | (rw [hy114]; with_reducible exact H) | (have H2_ := (Option.bind_some _ _).symm.trans H; rw [hy114]; with_reducible exact H2_) | (have H2_ := (Option.bind_some _ _).symm.trans H; with_reducible exact H2_) | with_reducible exact H | (rw [hy114]; exact H) | exact H
              have Ny114 := Aside0.mk hy114
              clear hy114
              have H' := Aside0.mk H
              clear H
              have hcz32_0 : wr.cell? ⟨gb101, 0, none⟩ = some (.int .i64 a0_0) := (blk_cell BK101.out 0).trans rfl
              have hcz32_1 : wr.cell? ⟨gb101, 1, none⟩ = some (.int .i64 a0_1) := (blk_cell BK101.out 1).trans rfl
              have hfz32_0 := blk_frozen BK101.out 0
              have hfz32_1 := blk_frozen BK101.out 1
              go_wp2_with (first | ((with_reducible refine gate_callee (f := 8) rfl ?_); refine goesL_ (some 49) rfl rfl Try.func8 (by kernel_rfl) rfl #[.agg #[.int .i64 a0_0, .int .i64 a0_1], .int .i64 x8_2] rfl (by (try simp only [List.map_toArray, List.map_cons, List.map_nil]); first | done | rfl | (simp only [List.length_drop, List.length_take]; rfl)) ?_; (with_reducible refine (spec_l09Distances.calls k2 a0_0 a0_1 x8_2 t111 _ A30.out).mono ?_); rintro e w33 ⟨v112, rfl, ho0, hb⟩; refine ⟨_, rfl, ?_⟩; have n0_ := Aside0.mk (Kd.R_elder' (by exact HO_5.out) (Kd.R_base ho0) hb); have n1_ := Aside0.mk (Kd.S_elder' (by (with_reducible repeat (first | apply Kd.S_alloc | apply Kd.S_drewN | apply Kd.S_drew)); exact HO_7.out) (Kd.R_base ho0) hb); have n2_ := Aside0.mk (Kd.R_lower (Kd.R_new' ho0 (Kd.R_lt (by exact HO_5.out))) (below_size (by repeat (first | (with_reducible first | exact HB.out | apply below_alloc | apply pw_below_drewN | apply below_drew1 | refine below_set ?_ GE101.out) | exact HB.out)))); have n3_ := Aside0.mk (blk_below (g := gb101) (o := .cells #[.int .i64 a0_0, .int .i64 a0_1] 26 (0, 0)) (by (with_reducible repeat (first | refine blk_drewN ?_ _ | refine blk_drew ?_ | refine blk_alloc ?_ _)); exact BK101.out) hb); have n4_ := Aside0.mk (below_step (by repeat (first | (with_reducible first | exact HB.out | apply below_alloc | apply pw_below_drewN | apply below_drew1 | refine below_set ?_ GE101.out) | exact HB.out)) hb); clear HO_5; clear HO_7; clear BK101; clear HB; have HO_5 := n0_; have HO_7 := n1_; have HO113 := n2_; have BK101 := n3_; have HB := n4_; clear n0_ n1_ n2_ n3_ n4_; (try clear hb); (try clear hb2); (try clear hk); (try clear hi); (try clear ho0); obtain ⟨Ao35, co35, eo35⟩ := Kd.R_slice HO113.out; subst eo35) | ((with_reducible refine gate_builtin (b := .append) (xs := #[.tmp 46, .tmp 50]) rfl ?_); at_builtin; refine Kd.S_append (Kd.slice 2 (Kd.int .i64)) (w0 := w) w.heap.size rfl (.tmp 46) (.tmp 50) 32 30 (.slice none 0 0) 24 rfl Try.underlying32 info30 rfl (by decide) (by omega) u7 x7_2 t111 [.slice Ao35 t111.length co35] (fun k_ => some k_ ≠ (.slice (some ⟨go24, 0, none⟩) y107.length co15 : Value).ownBlock) (fun k_ => some k_ = (.slice Ao35 t111.length co35 : Value).ownBlock) rfl rfl ?aP (fun k_ hk_ => ((Kd.R_mono (ok' := fun k_ => ((fun k_ => some k_ ≠ (.slice (some ⟨go24, 0, none⟩) y107.length co15 : Value).ownBlock)) k_ ∧ some k_ ≠ (u7 : Value).ownBlock) (Kd.R_apart' (HO113.out) (Kd.S_typed HO_7.out) (by decide)) (fun k_ hk => ⟨hk.1.2, hk.2⟩))).1 k_ hk_.symm) ?aF ?aO ?aB ?aS ?aL ?_; (case aP => exact Kd.M_row (Kd.R_mono (Kd.R_tight rfl (Kd.R_mono (ok' := fun k_ => ((fun k_ => some k_ ≠ (.slice (some ⟨go24, 0, none⟩) y107.length co15 : Value).ownBlock)) k_ ∧ some k_ ≠ (u7 : Value).ownBlock) (Kd.R_apart' (HO113.out) (Kd.S_typed HO_7.out) (by decide)) (fun k_ hk => ⟨hk.1.2, hk.2⟩))) (fun _ h_ => h_))); (case aB => exact (by repeat (first | (with_reducible first | exact HB.out | apply below_alloc | apply pw_below_drewN | apply below_drew1 | refine below_set ?_ GE101.out) | exact HB.out))); (case aF => exact (fun k_ hk => Kd.fresh' (Kd.R_lt (by exact HO_5.out)) k_ hk)); (case aO => exact (by (with_reducible repeat (first | apply Kd.S_alloc | apply Kd.S_drewN | apply Kd.S_drew)); exact Kd.S_mono HO_7.out (fun k_ hk => ⟨hk.1, fun e_ => hk.2 e_⟩))); (case aS => exact (below_size (by repeat (first | (with_reducible first | exact HB.out | apply below_alloc | apply pw_below_drewN | apply below_drew1 | refine below_set ?_ GE101.out) | exact HB.out)))); (case aL => have := LMc31.out; omega); intro v115 w34 ho hb hg hat; rw [← Ny114.out] at ho; have n0_ := Aside0.mk (Kd.R_over' (by exact HO_5.out) (Kd.S_typed (by (with_reducible repeat (first | apply Kd.S_alloc | apply Kd.S_drewN | apply Kd.S_drew)); exact HO_7.out)) (by decide) hg); have n1_ := Aside0.mk (blk_grown (g := gb101) (o := .cells #[.int .i64 a0_0, .int .i64 a0_1] 26 (0, 0)) (by (with_reducible repeat (first | refine blk_drewN ?_ _ | refine blk_drew ?_ | refine blk_alloc ?_ _)); exact BK101.out) hg (Kd.S_ne HO_7.out BK101.out (by decide))); have n2_ := Aside0.mk (hb); have n3_ := Aside0.mk (ho); clear HO_5; clear BK101; clear HB; clear HO_7; clear HO113; have HO_5 := n0_; have BK101 := n1_; have HB := n2_; have HO116 := n3_; clear n0_ n1_ n2_ n3_; clear ho hb hg hat))
              (try simp only [← hl5_2])
              go_roundg k2
              case measure => have := HK1.out; have := HK2.out; omega
              case rel => exact ⟨(y114), (wrap64 (x8_2 + 1)), (by first | rfl | simp), H', ⟨by have := HK1.out; have := HK2.out; omega⟩, ⟨by (try simp only [hl5_1]); (try simp only [hl5_2]); exact Kd.R_mono HO_5.out (fun _ hk => trivial)⟩, ⟨by (try simp only [hl5_1]); (try simp only [hl5_2]); (with_reducible repeat (first | apply Kd.S_alloc | apply Kd.S_drewN | apply Kd.S_drew)); exact HO116.out⟩, ⟨by (try simp only [hl5_1]); (try simp only [hl5_2]); (with_reducible repeat (first | refine blk_drewN ?_ _ | refine blk_drew ?_ | refine blk_alloc ?_ _)); exact BK101.out⟩, ⟨by repeat (first | (with_reducible first | exact HB.out | apply below_alloc | apply pw_below_drewN | apply below_drew1 | refine below_set ?_ GE101.out) | exact HB.out)⟩⟩
             ·
              rw [if_neg c31] at H
              exact absurd H (by simp)
            ·
             rw [if_neg c29] at H
             have c29b0 : decide (x8_2 < a0_0) = false := decide_eq_false c29
             clear c29
             have H' := Aside0.mk H
             clear H
             go_wp2
             go_loopg [9] k2 (fun kq v9 w' => ∃ (x5_3 : List Int) (x9_3 : Int), v9 = .int .i64 x9_3 ∧ Aside0 (spec_ShortestRound.l2 kq a0_0 x5_3 x7_2 x9_3 = some (r1, r2)) ∧ Aside0 (kq ≤ k2) ∧ Aside0 (Kd.R (Kd.int .i64) 2 w' w.heap.size (fun _ => True) (.slice (some ⟨go24, 0, none⟩) y107.length co15) x5_3) ∧ Aside0 (Kd.S (Kd.slice 2 (Kd.int .i64)) 30 w' w.heap.size (fun k_ => some k_ ≠ ((.slice (some ⟨go24, 0, none⟩) y107.length co15) : Value).ownBlock) u7 x7_2) ∧ Aside0 (w'.heap[gb101]? = some (.cells #[.int .i64 a0_0, .int .i64 a0_1] 26 (0, 0))) ∧ Aside0 (Below w.heap.size w w'))
             case atStart => exact ⟨(y107), (1), (by first | rfl | simp), H', ⟨Nat.le_refl _⟩, ⟨by (try simp only [hl5_1]); (try simp only [hl5_2]); exact HO_5.out⟩, ⟨by (try simp only [hl5_1]); (try simp only [hl5_2]); (with_reducible repeat (first | apply Kd.S_alloc | apply Kd.S_drewN | apply Kd.S_drew)); exact HO_7.out⟩, ⟨by (try simp only [hl5_1]); (try simp only [hl5_2]); (with_reducible repeat (first | refine blk_drewN ?_ _ | refine blk_drew ?_ | refine blk_alloc ?_ _)); exact BK101.out⟩, ⟨by repeat (first | (with_reducible first | exact HB.out | apply below_alloc | apply pw_below_drewN | apply below_drew1 | refine below_set ?_ GE101.out) | exact HB.out)⟩⟩
             case round =>
              clear H'
              try clear c1
              try clear p1
              try clear q1
              try clear hx1
              try clear hf1
              try clear c2
              try clear p2
              try clear q2
              try clear hx2
              try clear hf2
              try clear c3
              try clear c4
              try clear c5
              try clear c5b0
              try clear c5b1
              try clear p6
              try clear c7
              try clear c7b0
              try clear c7b1
              try clear c8
              try clear c8b0
              try clear c8b1
              try clear c16
              try clear c16b0
              try clear c17
              try clear c17b0
              try clear c18
              try clear c18b0
              try clear p19
              try clear q19
              try clear hx19
              try clear hf19
              try clear c22
              try clear c22b0
              try clear c23
              try clear c23b0
              try clear p24
              try clear q24
              try clear hx24
              try clear hf24
              try clear c29
              try clear c29b0
              try clear c31
              try clear hcz10_0
              try clear hcz10_1
              try clear hcz12_0
              try clear hcz12_1
              try clear hcz32_0
              try clear hcz32_1
              try clear hfz10_0
              try clear hfz10_1
              try clear hfz12_0
              try clear hfz12_1
              try clear hfz32_0
              try clear hfz32_1
              try clear hx19_0
              try clear hx24_0
              try clear p1
              try clear p19
              try clear p2
              try clear p24
              try clear p6
              try clear q1
              try clear q19
              try clear q2
              try clear q24
              obtain ⟨x5_3, x9_3, rfl, HA, HK3, HO_5, HO_7, BK101, HB⟩ := hrel
              have hl5_3 := (Kd.R_reads' HO_5.out).1
              rw [hl5_3] at HO_5
              (try simp only [hl5_3])
              (try simp only [hl5_3] at BK101)
              (try simp only [hl5_3] at HO_7)
              cases gk with
              | zero => exact absurd HA.out (by simp [spec_ShortestRound.l2])
              | succ k3 =>
               have H := HA.out
               clear HA
               simp only [spec_ShortestRound.l2] at H
               obtain ⟨ji36, hji36⟩ : ∃ j_ : Int, (IntKind.u64.wrap (a0_0)) = j_ := ⟨_, rfl⟩
               replace H : (if 0 ≤ (ji36) then (if x9_3 < (shl .i64 1 (ji36)) then (spec_ShortestRound.l3 k3 a0_0 x5_3 x7_2 x9_3 0) else (spec_ShortestRound.l5 k3 a0_0 x5_3 x7_2 (-1) (wrap64 ((wrap64 ((shl .i64 1 (ji36)) - 1)) * a0_0)) 0)) else (none)) = some (r1, r2) := by first | (rw [hji36] at H; exact H) | (simp only [hji36] at H ⊢; exact H)
               (try (obtain rfl : ji36 = ji4 := hji36.symm.trans hji4))
               by_cases c37 : 0 ≤ (ji36)
               ·
                rw [if_pos c37] at H
                have c37b0 := eq_true c37
                have c37b1 : decide (0 ≤ (ji36)) = true := decide_eq_true c37
                clear c37
                obtain ⟨ji38, hji38⟩ : ∃ j_ : Int, (shl .i64 1 (ji36)) = j_ := ⟨_, rfl⟩
                replace H : (if x9_3 < (ji38) then (spec_ShortestRound.l3 k3 a0_0 x5_3 x7_2 x9_3 0) else (spec_ShortestRound.l5 k3 a0_0 x5_3 x7_2 (-1) (wrap64 ((wrap64 ((ji38) - 1)) * a0_0)) 0)) = some (r1, r2) := by first | (rw [hji38] at H; exact H) | (simp only [hji38] at H ⊢; exact H)
                have hji38_ : (IntKind.i64.wrap (1 * 2 ^ min (ji36).toNat 64)) = ji38 := hji38
                have hji38z : (ji36) ≤ 64 → (IntKind.i64.wrap (1 * 2 ^ (ji36).toNat)) = ji38 := shl_small hji38
                have hji38u : (IntKind.i64.wrap (2 ^ min (ji36).toNat 64)) = ji38 := by have h_ := hji38_; rw [Int.one_mul] at h_; exact h_
                have hji38v : (ji36) ≤ 64 → (IntKind.i64.wrap (2 ^ (ji36).toNat)) = ji38 := fun hle_ => by have h_ := hji38z hle_; rw [Int.one_mul] at h_; exact h_
                have hji38y : (wrap64 (1 * 2 ^ min (ji36).toNat 64)) = ji38 := (i64_w _).symm.trans hji38_
                have hji38x : (ji36) ≤ 64 → (wrap64 (1 * 2 ^ (ji36).toNat)) = ji38 := fun h_ => (i64_w _).symm.trans (hji38z h_)
                by_cases c39 : x9_3 < (ji38)
                ·
                 rw [if_pos c39] at H
                 have c39b0 : decide (x9_3 < (ji38)) = true := decide_eq_true c39
                 clear c39
                 have H' := Aside0.mk H
                 clear H
                 go_wp2
                 go_loopg [10] k3 (fun kq v10 w' => ∃ (x5_4 : List Int) (x10_4 : Int), v10 = .int .i64 x10_4 ∧ Aside0 (spec_ShortestRound.l3 kq a0_0 x5_4 x7_2 x9_3 x10_4 = some (r1, r2)) ∧ Aside0 (kq ≤ k3) ∧ Aside0 (Kd.R (Kd.int .i64) 2 w' w.heap.size (fun _ => True) (.slice (some ⟨go24, 0, none⟩) x5_3.length co15) x5_4) ∧ Aside0 (Kd.S (Kd.slice 2 (Kd.int .i64)) 30 w' w.heap.size (fun k_ => some k_ ≠ ((.slice (some ⟨go24, 0, none⟩) x5_3.length co15) : Value).ownBlock) u7 x7_2) ∧ Aside0 (w'.heap[gb101]? = some (.cells #[.int .i64 a0_0, .int .i64 a0_1] 26 (0, 0))) ∧ Aside0 (Below w.heap.size w w'))
                 case atStart => exact ⟨(x5_3), (0), (by first | rfl | simp), H', ⟨Nat.le_refl _⟩, ⟨by (try simp only [hl5_1]); (try simp only [hl5_2]); (try simp only [hl5_3]); exact HO_5.out⟩, ⟨by (try simp only [hl5_1]); (try simp only [hl5_2]); (try simp only [hl5_3]); (with_reducible repeat (first | apply Kd.S_alloc | apply Kd.S_drewN | apply Kd.S_drew)); exact HO_7.out⟩, ⟨by (try simp only [hl5_1]); (try simp only [hl5_2]); (try simp only [hl5_3]); (with_reducible repeat (first | refine blk_drewN ?_ _ | refine blk_drew ?_ | refine blk_alloc ?_ _)); exact BK101.out⟩, ⟨by repeat (first | (with_reducible first | exact HB.out | apply below_alloc | apply pw_below_drewN | apply below_drew1 | refine below_set ?_ GE101.out) | exact HB.out)⟩⟩
                 case round =>
                  clear H'
                  try clear c1
                  try clear p1
                  try clear q1
                  try clear hx1
                  try clear hf1
                  try clear c2
                  try clear p2
                  try clear q2
                  try clear hx2
                  try clear hf2
                  try clear c3
                  try clear c4
                  try clear c5
                  try clear c5b0
                  try clear c5b1
                  try clear p6
                  try clear c7
                  try clear c7b0
                  try clear c7b1
                  try clear c8
                  try clear c8b0
                  try clear c8b1
                  try clear c16
                  try clear c16b0
                  try clear c17
                  try clear c17b0
                  try clear c18
                  try clear c18b0
                  try clear p19
                  try clear q19
                  try clear hx19
                  try clear hf19
                  try clear c22
                  try clear c22b0
                  try clear c23
                  try clear c23b0
                  try clear p24
                  try clear q24
                  try clear hx24
                  try clear hf24
                  try clear c29
                  try clear c29b0
                  try clear c31
                  try clear c37
                  try clear c37b0
                  try clear c37b1
                  try clear c39
                  try clear c39b0
                  try clear hcz10_0
                  try clear hcz10_1
                  try clear hcz12_0
                  try clear hcz12_1
                  try clear hcz32_0
                  try clear hcz32_1
                  try clear hfz10_0
                  try clear hfz10_1
                  try clear hfz12_0
                  try clear hfz12_1
                  try clear hfz32_0
                  try clear hfz32_1
                  try clear hx19_0
                  try clear hx24_0
                  try clear p1
                  try clear p19
                  try clear p2
                  try clear p24
                  try clear p6
                  try clear q1
                  try clear q19
                  try clear q2
                  try clear q24
                  obtain ⟨x5_4, x10_4, rfl, HA, HK4, HO_5, HO_7, BK101, HB⟩ := hrel
                  have hl5_4 := (Kd.R_reads' HO_5.out).1
                  rw [hl5_4] at HO_5
                  (try simp only [hl5_4])
                  (try simp only [hl5_4] at BK101)
                  (try simp only [hl5_4] at HO_7)
                  cases gk with
                  | zero => exact absurd HA.out (by simp [spec_ShortestRound.l3])
                  | succ k4 =>
                   have H := HA.out
                   clear HA
                   simp only [spec_ShortestRound.l3] at H
                   by_cases c40 : x10_4 < a0_0
                   ·
                    rw [if_pos c40] at H
                    have c40b0 : decide (x10_4 < a0_0) = true := decide_eq_true c40
                    clear c40
                    obtain ⟨ji41, hji41⟩ : ∃ j_ : Int, (wrap64 ((wrap64 (x9_3 * a0_0)) + x10_4)) = j_ := ⟨_, rfl⟩
                    replace H : (if 0 ≤ (ji41) then (if (ji41) < (x5_4.length : Int) then (if (rd x5_4 (ji41)) < 0 then (spec_ShortestRound.l3 k4 a0_0 x5_4 x7_2 x9_3 (wrap64 (x10_4 + 1))) else (spec_ShortestRound.l4 k4 a0_0 x5_4 x7_2 x9_3 x10_4 (rd x5_4 (ji41)) 0)) else (none)) else (none)) = some (r1, r2) := by first | (rw [hji41] at H; exact H) | (simp only [hji41] at H ⊢; exact H)
                    have hji41w : (IntKind.i64.wrap ((wrap64 (x9_3 * a0_0)) + x10_4)) = ji41 := (i64_w _).trans hji41
                    by_cases c42 : 0 ≤ (ji41)
                    ·
                     rw [if_pos c42] at H
                     have c42b0 : decide (0 ≤ (ji41)) = true := decide_eq_true c42
                     clear c42
                     by_cases c43 : (ji41) < (x5_4.length : Int)
                     ·
                      rw [if_pos c43] at H
                      have c43b0 : decide ((ji41) < (x5_4.length : Int)) = true := decide_eq_true c43
                      clear c43
                      by_cases c44 : (rd x5_4 (ji41)) < 0
                      ·
                       rw [if_pos c44] at H
                       have c44b0 : decide ((rd x5_4 (ji41)) < 0) = true := decide_eq_true c44
                       clear c44
                       have H' := Aside0.mk H
                       clear H
                       have p117 : 0 ≤ ((ji41) : Int) := of_decide_eq_true (by assumption)
                       have q117 : (ji41) < (x5_4.length : Int) := of_decide_eq_true (by assumption)
                       obtain ⟨ad117, e117, hx117_0⟩ := Kd.at_int (Kd.R_reads' HO_5.out).2.2 (ji41) p117 q117
                       obtain rfl : (⟨go24, 0, none⟩ : Addr) = ad117 := (by injection e117)
                       (first | simp only [add_plain] at hx117_0 | simp only [add_at] at hx117_0 | simp only [Addr.add, Nat.zero_add] at hx117_0 | skip)
                       replace p117 := eq_true p117
                       replace q117 := eq_true q117
                       go_wp2
                       (try simp only [← hl5_4])
                       go_roundg k4
                       case measure => have := HK1.out; have := HK2.out; have := HK3.out; have := HK4.out; omega
                       case rel => exact ⟨(x5_4), (wrap64 (x10_4 + 1)), (by first | rfl | simp), H', ⟨by have := HK1.out; have := HK2.out; have := HK3.out; have := HK4.out; omega⟩, ⟨by (try simp only [hl5_1]); (try simp only [hl5_2]); (try simp only [hl5_3]); (try simp only [hl5_4]); exact HO_5.out⟩, ⟨by (try simp only [hl5_1]); (try simp only [hl5_2]); (try simp only [hl5_3]); (try simp only [hl5_4]); (with_reducible repeat (first | apply Kd.S_alloc | apply Kd.S_drewN | apply Kd.S_drew)); exact HO_7.out⟩, ⟨by (try simp only [hl5_1]); (try simp only [hl5_2]); (try simp only [hl5_3]); (try simp only [hl5_4]); (with_reducible repeat (first | refine blk_drewN ?_ _ | refine blk_drew ?_ | refine blk_alloc ?_ _)); exact BK101.out⟩, ⟨by repeat (first | (with_reducible first | exact HB.out | apply below_alloc | apply pw_below_drewN | apply below_drew1 | refine below_set ?_ GE101.out) | exact HB.out)⟩⟩
                      ·
                       rw [if_neg c44] at H
                       have c44b0 : decide ((rd x5_4 (ji41)) < 0) = false := decide_eq_false c44
                       clear c44
                       have H' := Aside0.mk H
                       clear H
                       have p117 : 0 ≤ ((ji41) : Int) := of_decide_eq_true (by assumption)
                       have q117 : (ji41) < (x5_4.length : Int) := of_decide_eq_true (by assumption)
                       obtain ⟨ad117, e117, hx117_0⟩ := Kd.at_int (Kd.R_reads' HO_5.out).2.2 (ji41) p117 q117
                       obtain rfl : (⟨go24, 0, none⟩ : Addr) = ad117 := (by injection e117)
                       (first | simp only [add_plain] at hx117_0 | simp only [add_at] at hx117_0 | simp only [Addr.add, Nat.zero_add] at hx117_0 | skip)
                       replace p117 := eq_true p117
                       replace q117 := eq_true q117
                       go_wp2
                       go_loopg [12] k4 (fun kq v12 w' => ∃ (x5_5 : List Int) (x12_5 : Int), v12 = .int .i64 x12_5 ∧ Aside0 (spec_ShortestRound.l4 kq a0_0 x5_5 x7_2 x9_3 x10_4 (rd x5_4 (ji41)) x12_5 = some (r1, r2)) ∧ Aside0 (kq ≤ k4) ∧ Aside0 (Kd.R (Kd.int .i64) 2 w' w.heap.size (fun _ => True) (.slice (some ⟨go24, 0, none⟩) x5_4.length co15) x5_5) ∧ Aside0 (Kd.S (Kd.slice 2 (Kd.int .i64)) 30 w' w.heap.size (fun k_ => some k_ ≠ ((.slice (some ⟨go24, 0, none⟩) x5_4.length co15) : Value).ownBlock) u7 x7_2) ∧ Aside0 (w'.heap[gb101]? = some (.cells #[.int .i64 a0_0, .int .i64 a0_1] 26 (0, 0))) ∧ Aside0 (Below w.heap.size w w'))
                       case atStart => exact ⟨(x5_4), (0), (by first | rfl | simp), H', ⟨Nat.le_refl _⟩, ⟨by (try simp only [hl5_1]); (try simp only [hl5_2]); (try simp only [hl5_3]); (try simp only [hl5_4]); exact HO_5.out⟩, ⟨by (try simp only [hl5_1]); (try simp only [hl5_2]); (try simp only [hl5_3]); (try simp only [hl5_4]); (with_reducible repeat (first | apply Kd.S_alloc | apply Kd.S_drewN | apply Kd.S_drew)); exact HO_7.out⟩, ⟨by (try simp only [hl5_1]); (try simp only [hl5_2]); (try simp only [hl5_3]); (try simp only [hl5_4]); (with_reducible repeat (first | refine blk_drewN ?_ _ | refine blk_drew ?_ | refine blk_alloc ?_ _)); exact BK101.out⟩, ⟨by repeat (first | (with_reducible first | exact HB.out | apply below_alloc | apply pw_below_drewN | apply below_drew1 | refine below_set ?_ GE101.out) | exact HB.out)⟩⟩
                       case round =>
                        clear H'
                        try clear c1
                        try clear p1
                        try clear q1
                        try clear hx1
                        try clear hf1
                        try clear c2
                        try clear p2
                        try clear q2
                        try clear hx2
                        try clear hf2
                        try clear c3
                        try clear c4
                        try clear c5
                        try clear c5b0
                        try clear c5b1
                        try clear p6
                        try clear c7
                        try clear c7b0
                        try clear c7b1
                        try clear c8
                        try clear c8b0
                        try clear c8b1
                        try clear p11
                        try clear q11
                        try clear hx11
                        try clear c16
                        try clear c16b0
                        try clear c17
                        try clear c17b0
                        try clear c18
                        try clear c18b0
                        try clear p19
                        try clear q19
                        try clear hx19
                        try clear hf19
                        try clear c22
                        try clear c22b0
                        try clear c23
                        try clear c23b0
                        try clear p24
                        try clear q24
                        try clear hx24
                        try clear hf24
                        try clear c29
                        try clear c29b0
                        try clear c31
                        try clear c37
                        try clear c37b0
                        try clear c37b1
                        try clear c39
                        try clear c39b0
                        try clear c40
                        try clear c40b0
                        try clear c42
                        try clear c42b0
                        try clear c43
                        try clear c43b0
                        try clear c44
                        try clear c44b0
                        try clear hcz10_0
                        try clear hcz10_1
                        try clear hcz12_0
                        try clear hcz12_1
                        try clear hcz32_0
                        try clear hcz32_1
                        try clear hfz10_0
                        try clear hfz10_1
                        try clear hfz12_0
                        try clear hfz12_1
                        try clear hfz32_0
                        try clear hfz32_1
                        try clear hx117_0
                        try clear hx19_0
                        try clear hx24_0
                        try clear p1
                        try clear p117
                        try clear p19
                        try clear p2
                        try clear p24
                        try clear p6
                        try clear q1
                        try clear q117
                        try clear q19
                        try clear q2
                        try clear q24
                        obtain ⟨x5_5, x12_5, rfl, HA, HK5, HO_5, HO_7, BK101, HB⟩ := hrel
                        have hl5_5 := (Kd.R_reads' HO_5.out).1
                        rw [hl5_5] at HO_5
                        (try simp only [hl5_5])
                        (try simp only [hl5_5] at BK101)
                        (try simp only [hl5_5] at HO_7)
                        cases gk with
                        | zero => exact absurd HA.out (by simp [spec_ShortestRound.l4])
                        | succ k5 =>
                         have H := HA.out
                         clear HA
                         simp only [spec_ShortestRound.l4] at H
                         by_cases c45 : x12_5 < a0_0
                         ·
                          rw [if_pos c45] at H
                          have c45b0 : decide (x12_5 < a0_0) = true := decide_eq_true c45
                          clear c45
                          obtain ⟨ji46, hji46⟩ : ∃ j_ : Int, (IntKind.u64.wrap (x12_5)) = j_ := ⟨_, rfl⟩
                          replace H : (if 0 ≤ (ji46) then (if (Go.bits .and .i64 (shr .i64 x9_3 (ji46)) 1) = 0 then (if 0 ≤ x10_4 then (if x10_4 < (x7_2.length : Int) then (if 0 ≤ x12_5 then (if x12_5 < ((rd_L1 x7_2 x10_4).length : Int) then (if (rd (rd_L1 x7_2 x10_4) x12_5) ≥ 0 then (if 0 ≤ (wrap64 ((wrap64 ((Go.bits .or .i64 x9_3 (shl .i64 1 (ji46))) * a0_0)) + x12_5)) then (if (wrap64 ((wrap64 ((Go.bits .or .i64 x9_3 (shl .i64 1 (ji46))) * a0_0)) + x12_5)) < (x5_5.length : Int) then (if (rd x5_5 (wrap64 ((wrap64 ((Go.bits .or .i64 x9_3 (shl .i64 1 (ji46))) * a0_0)) + x12_5))) < 0 then (spec_ShortestRound.l4 k5 a0_0 (x5_5.set ((wrap64 ((wrap64 ((Go.bits .or .i64 x9_3 (shl .i64 1 (ji46))) * a0_0)) + x12_5)) : Int).toNat (wrap64 ((rd x5_4 (ji41)) + (rd (rd_L1 x7_2 x10_4) x12_5)))) x7_2 x9_3 x10_4 (rd x5_4 (ji41)) (wrap64 (x12_5 + 1))) else (if (wrap64 ((rd x5_4 (ji41)) + (rd (rd_L1 x7_2 x10_4) x12_5))) < (rd x5_5 (wrap64 ((wrap64 ((Go.bits .or .i64 x9_3 (shl .i64 1 (ji46))) * a0_0)) + x12_5))) then (spec_ShortestRound.l4 k5 a0_0 (x5_5.set ((wrap64 ((wrap64 ((Go.bits .or .i64 x9_3 (shl .i64 1 (ji46))) * a0_0)) + x12_5)) : Int).toNat (wrap64 ((rd x5_4 (ji41)) + (rd (rd_L1 x7_2 x10_4) x12_5)))) x7_2 x9_3 x10_4 (rd x5_4 (ji41)) (wrap64 (x12_5 + 1))) else (spec_ShortestRound.l4 k5 a0_0 x5_5 x7_2 x9_3 x10_4 (rd x5_4 (ji41)) (wrap64 (x12_5 + 1))))) else (none)) else (none)) else (spec_ShortestRound.l4 k5 a0_0 x5_5 x7_2 x9_3 x10_4 (rd x5_4 (ji41)) (wrap64 (x12_5 + 1)))) else (none)) else (none)) else (none)) else (none)) else (spec_ShortestRound.l4 k5 a0_0 x5_5 x7_2 x9_3 x10_4 (rd x5_4 (ji41)) (wrap64 (x12_5 + 1)))) else (none)) = some (r1, r2) := by first | (rw [hji46] at H; exact H) | (simp only [hji46] at H ⊢; exact H)
                          by_cases c47 : 0 ≤ (ji46)
                          ·
                           rw [if_pos c47] at H
                           have c47b0 := eq_true c47
                           have c47b1 : decide (0 ≤ (ji46)) = true := decide_eq_true c47
                           clear c47
                           obtain ⟨ji48, hji48⟩ : ∃ j_ : Int, (shl .i64 1 (ji46)) = j_ := ⟨_, rfl⟩
                           replace H : (if (Go.bits .and .i64 (shr .i64 x9_3 (ji46)) 1) = 0 then (if 0 ≤ x10_4 then (if x10_4 < (x7_2.length : Int) then (if 0 ≤ x12_5 then (if x12_5 < ((rd_L1 x7_2 x10_4).length : Int) then (if (rd (rd_L1 x7_2 x10_4) x12_5) ≥ 0 then (if 0 ≤ (wrap64 ((wrap64 ((Go.bits .or .i64 x9_3 (ji48)) * a0_0)) + x12_5)) then (if (wrap64 ((wrap64 ((Go.bits .or .i64 x9_3 (ji48)) * a0_0)) + x12_5)) < (x5_5.length : Int) then (if (rd x5_5 (wrap64 ((wrap64 ((Go.bits .or .i64 x9_3 (ji48)) * a0_0)) + x12_5))) < 0 then (spec_ShortestRound.l4 k5 a0_0 (x5_5.set ((wrap64 ((wrap64 ((Go.bits .or .i64 x9_3 (ji48)) * a0_0)) + x12_5)) : Int).toNat (wrap64 ((rd x5_4 (ji41)) + (rd (rd_L1 x7_2 x10_4) x12_5)))) x7_2 x9_3 x10_4 (rd x5_4 (ji41)) (wrap64 (x12_5 + 1))) else (if (wrap64 ((rd x5_4 (ji41)) + (rd (rd_L1 x7_2 x10_4) x12_5))) < (rd x5_5 (wrap64 ((wrap64 ((Go.bits .or .i64 x9_3 (ji48)) * a0_0)) + x12_5))) then (spec_ShortestRound.l4 k5 a0_0 (x5_5.set ((wrap64 ((wrap64 ((Go.bits .or .i64 x9_3 (ji48)) * a0_0)) + x12_5)) : Int).toNat (wrap64 ((rd x5_4 (ji41)) + (rd (rd_L1 x7_2 x10_4) x12_5)))) x7_2 x9_3 x10_4 (rd x5_4 (ji41)) (wrap64 (x12_5 + 1))) else (spec_ShortestRound.l4 k5 a0_0 x5_5 x7_2 x9_3 x10_4 (rd x5_4 (ji41)) (wrap64 (x12_5 + 1))))) else (none)) else (none)) else (spec_ShortestRound.l4 k5 a0_0 x5_5 x7_2 x9_3 x10_4 (rd x5_4 (ji41)) (wrap64 (x12_5 + 1)))) else (none)) else (none)) else (none)) else (none)) else (spec_ShortestRound.l4 k5 a0_0 x5_5 x7_2 x9_3 x10_4 (rd x5_4 (ji41)) (wrap64 (x12_5 + 1)))) = some (r1, r2) := by first | (rw [hji48] at H; exact H) | (simp only [hji48] at H ⊢; exact H)
                           have hji48_ : (IntKind.i64.wrap (1 * 2 ^ min (ji46).toNat 64)) = ji48 := hji48
                           have hji48z : (ji46) ≤ 64 → (IntKind.i64.wrap (1 * 2 ^ (ji46).toNat)) = ji48 := shl_small hji48
                           have hji48u : (IntKind.i64.wrap (2 ^ min (ji46).toNat 64)) = ji48 := by have h_ := hji48_; rw [Int.one_mul] at h_; exact h_
                           have hji48v : (ji46) ≤ 64 → (IntKind.i64.wrap (2 ^ (ji46).toNat)) = ji48 := fun hle_ => by have h_ := hji48z hle_; rw [Int.one_mul] at h_; exact h_
                           have hji48y : (wrap64 (1 * 2 ^ min (ji46).toNat 64)) = ji48 := (i64_w _).symm.trans hji48_
                           have hji48x : (ji46) ≤ 64 → (wrap64 (1 * 2 ^ (ji46).toNat)) = ji48 := fun h_ => (i64_w _).symm.trans (hji48z h_)
                           have c49b0 := eq_true (of_decide_eq_true (by assumption) : 0 ≤ (ji46))
                           obtain ⟨ji50, hji50⟩ : ∃ j_ : Int, (shr .i64 x9_3 (ji46)) = j_ := ⟨_, rfl⟩
                           replace H : (if (Go.bits .and .i64 (ji50) 1) = 0 then (if 0 ≤ x10_4 then (if x10_4 < (x7_2.length : Int) then (if 0 ≤ x12_5 then (if x12_5 < ((rd_L1 x7_2 x10_4).length : Int) then (if (rd (rd_L1 x7_2 x10_4) x12_5) ≥ 0 then (if 0 ≤ (wrap64 ((wrap64 ((Go.bits .or .i64 x9_3 (ji48)) * a0_0)) + x12_5)) then (if (wrap64 ((wrap64 ((Go.bits .or .i64 x9_3 (ji48)) * a0_0)) + x12_5)) < (x5_5.length : Int) then (if (rd x5_5 (wrap64 ((wrap64 ((Go.bits .or .i64 x9_3 (ji48)) * a0_0)) + x12_5))) < 0 then (spec_ShortestRound.l4 k5 a0_0 (x5_5.set ((wrap64 ((wrap64 ((Go.bits .or .i64 x9_3 (ji48)) * a0_0)) + x12_5)) : Int).toNat (wrap64 ((rd x5_4 (ji41)) + (rd (rd_L1 x7_2 x10_4) x12_5)))) x7_2 x9_3 x10_4 (rd x5_4 (ji41)) (wrap64 (x12_5 + 1))) else (if (wrap64 ((rd x5_4 (ji41)) + (rd (rd_L1 x7_2 x10_4) x12_5))) < (rd x5_5 (wrap64 ((wrap64 ((Go.bits .or .i64 x9_3 (ji48)) * a0_0)) + x12_5))) then (spec_ShortestRound.l4 k5 a0_0 (x5_5.set ((wrap64 ((wrap64 ((Go.bits .or .i64 x9_3 (ji48)) * a0_0)) + x12_5)) : Int).toNat (wrap64 ((rd x5_4 (ji41)) + (rd (rd_L1 x7_2 x10_4) x12_5)))) x7_2 x9_3 x10_4 (rd x5_4 (ji41)) (wrap64 (x12_5 + 1))) else (spec_ShortestRound.l4 k5 a0_0 x5_5 x7_2 x9_3 x10_4 (rd x5_4 (ji41)) (wrap64 (x12_5 + 1))))) else (none)) else (none)) else (spec_ShortestRound.l4 k5 a0_0 x5_5 x7_2 x9_3 x10_4 (rd x5_4 (ji41)) (wrap64 (x12_5 + 1)))) else (none)) else (none)) else (none)) else (none)) else (spec_ShortestRound.l4 k5 a0_0 x5_5 x7_2 x9_3 x10_4 (rd x5_4 (ji41)) (wrap64 (x12_5 + 1)))) = some (r1, r2) := by first | (rw [hji50] at H; exact H) | (simp only [hji50] at H ⊢; exact H)
                           have hji50_ : (x9_3 / 2 ^ min (ji46).toNat 64) = ji50 := hji50
                           have hji50z : (ji46) ≤ 64 → (x9_3 / 2 ^ (ji46).toNat) = ji50 := shr_small hji50
                           by_cases c51 : (Go.bits .and .i64 (ji50) 1) = 0
                           ·
                            rw [if_pos c51] at H
                            have c51b0 : ((Go.bits .and .i64 (ji50) 1) == 0) = true := beq_iff_eq.mpr c51
                            have c51b1 : ((Go.bits .and .i64 (ji50) 1) != 0) = false := bne_eq_false_iff_eq.mpr c51
                            clear c51
                            by_cases c52 : 0 ≤ x10_4
                            ·
                             rw [if_pos c52] at H
                             have c52b0 : decide (0 ≤ x10_4) = true := decide_eq_true c52
                             clear c52
                             by_cases c53 : x10_4 < (x7_2.length : Int)
                             ·
                              rw [if_pos c53] at H
                              have c53b0 : decide (x10_4 < (x7_2.length : Int)) = true := decide_eq_true c53
                              clear c53
                              by_cases c54 : 0 ≤ x12_5
                              ·
                               rw [if_pos c54] at H
                               have c54b0 : decide (0 ≤ x12_5) = true := decide_eq_true c54
                               clear c54
                               by_cases c55 : x12_5 < ((rd_L1 x7_2 x10_4).length : Int)
                               ·
                                rw [if_pos c55] at H
                                have c55b0 : decide (x12_5 < ((rd_L1 x7_2 x10_4).length : Int)) = true := decide_eq_true c55
                                clear c55
                                by_cases c56 : (rd (rd_L1 x7_2 x10_4) x12_5) ≥ 0
                                ·
                                 rw [if_pos c56] at H
                                 have c56b0 : decide (0 ≤ (rd (rd_L1 x7_2 x10_4) x12_5)) = true := decide_eq_true c56
                                 clear c56
                                 obtain ⟨ji57, hji57⟩ : ∃ j_ : Int, (wrap64 ((wrap64 ((Go.bits .or .i64 x9_3 (ji48)) * a0_0)) + x12_5)) = j_ := ⟨_, rfl⟩
                                 replace H : (if 0 ≤ (ji57) then (if (ji57) < (x5_5.length : Int) then (if (rd x5_5 (ji57)) < 0 then (spec_ShortestRound.l4 k5 a0_0 (x5_5.set ((ji57) : Int).toNat (wrap64 ((rd x5_4 (ji41)) + (rd (rd_L1 x7_2 x10_4) x12_5)))) x7_2 x9_3 x10_4 (rd x5_4 (ji41)) (wrap64 (x12_5 + 1))) else (if (wrap64 ((rd x5_4 (ji41)) + (rd (rd_L1 x7_2 x10_4) x12_5))) < (rd x5_5 (ji57)) then (spec_ShortestRound.l4 k5 a0_0 (x5_5.set ((ji57) : Int).toNat (wrap64 ((rd x5_4 (ji41)) + (rd (rd_L1 x7_2 x10_4) x12_5)))) x7_2 x9_3 x10_4 (rd x5_4 (ji41)) (wrap64 (x12_5 + 1))) else (spec_ShortestRound.l4 k5 a0_0 x5_5 x7_2 x9_3 x10_4 (rd x5_4 (ji41)) (wrap64 (x12_5 + 1))))) else (none)) else (none)) = some (r1, r2) := by first | (rw [hji57] at H; exact H) | (simp only [hji57] at H ⊢; exact H)
                                 have hji57w : (IntKind.i64.wrap ((wrap64 ((Go.bits .or .i64 x9_3 (ji48)) * a0_0)) + x12_5)) = ji57 := (i64_w _).trans hji57
                                 by_cases c58 : 0 ≤ (ji57)
                                 ·
                                  rw [if_pos c58] at H
                                  have c58b0 : decide (0 ≤ (ji57)) = true := decide_eq_true c58
                                  clear c58
                                  by_cases c59 : (ji57) < (x5_5.length : Int)
                                  ·
                                   rw [if_pos c59] at H
                                   have c59b0 : decide ((ji57) < (x5_5.length : Int)) = true := decide_eq_true c59
                                   clear c59
                                   by_cases c60 : (rd x5_5 (ji57)) < 0
                                   ·
                                    rw [if_pos c60] at H
                                    have c60b0 : decide ((rd x5_5 (ji57)) < 0) = true := decide_eq_true c60
                                    clear c60
                                    obtain ⟨y123, hy123⟩ : ∃ y_ : List Int, y_ = (x5_5.set ((ji57) : Int).toNat (wrap64 ((rd x5_4 (ji41)) + (rd (rd_L1 x7_2 x10_4) x12_5)))) := ⟨_, rfl⟩
                                    replace H : (spec_ShortestRound.l4 k5 a0_0 y123 x7_2 x9_3 x10_4 (rd x5_4 (ji41)) (wrap64 (x12_5 + 1))) = some (r1, r2) := by first | (rw [hy123]; with_reducible exact H) | (have H2_ := (Option.bind_some _ _).symm.trans H; rw [hy123]; with_reducible exact H2_) | (have H2_ := (Option.bind_some _ _).symm.trans H; with_reducible exact H2_) | with_reducible exact H | (rw [hy123]; exact H) | exact H
                                    have Ny123 := Aside0.mk hy123
                                    clear hy123
                                    have H' := Aside0.mk H
                                    clear H
                                    try go_wp2
                                    have n0_ := Aside0.mk (Kd.R_drew HO_5.out)
                                    have n1_ := Aside0.mk (Kd.S_drew HO_7.out)
                                    have n2_ := Aside0.mk (blk_drew BK101.out)
                                    have n3_ := Aside0.mk (below_drew1 HB.out)
                                    clear HO_5
                                    clear HO_7
                                    clear BK101
                                    clear HB
                                    have HO_5 := n0_
                                    have HO_7 := n1_
                                    have BK101 := n2_
                                    have HB := n3_
                                    clear n0_ n1_ n2_ n3_
                                    obtain ⟨Ao63, co63, eo63⟩ := Kd.S_slice HO_7.out
                                    (first | subst eo63 | (injection eo63 with f1_ f2_ f3_; have f4_ := f1_.symm; have f5_ := f3_.symm; clear f1_ f2_ f3_; subst f4_; subst f5_))
                                    have p118 : 0 ≤ (x10_4 : Int) := of_decide_eq_true (by assumption)
                                    have q118 : x10_4 < (x7_2.length : Int) := of_decide_eq_true (by assumption)
                                    obtain ⟨ad118, A118_0, c118_0, e118, hx118_0, hl118_0, hi118_0⟩ := at_L1 (Kd.S_reads' HO_7.out).2.2 x10_4 p118 q118
                                    cases e118
                                    obtain ⟨ce118, hce118, hMe118, hcc118⟩ := Kd.S_get HO_7.out [] x10_4 p118 (by first | exact q118 | exact of_decide_eq_true (by assumption) | (have e_ := (Kd.S_reads' HO_7.out).1; omega))
                                    obtain ⟨ve118_0, rfl, ge118_0⟩ := hMe118
                                    have hv118_0 := hcc118 0 _ rfl
                                    rw [Nat.add_zero, show ((Kd.slice 2 (Kd.int .i64))).sz = 1 from rfl, Nat.mul_one] at hv118_0
                                    replace hv118_0 := Option.some.inj (hv118_0.symm.trans hx118_0)
                                    rw [hv118_0] at ge118_0
                                    have HL118_0 := Aside0.mk (show Kd.R (Kd.int .i64) 2 _ _ _ _ (rd_L1 x7_2 x10_4) from ge118_0)
                                    clear hv118_0 ge118_0
                                    clear hcc118 hce118
                                    have HR118_0 := Aside0.mk hi118_0
                                    have HC118_0 := Aside0.mk hl118_0
                                    clear hi118_0 hl118_0
                                    replace p118 := eq_true p118
                                    replace q118 := eq_true q118
                                    have p119 : 0 ≤ (x12_5 : Int) := of_decide_eq_true (by assumption)
                                    have q119 : x12_5 < ((rd_L1 x7_2 x10_4).length : Int) := of_decide_eq_true (by assumption)
                                    obtain ⟨ad119, e119, hx119_0⟩ := Kd.at_int (by repeat (first | (with_reducible exact HR118_0.out) | (with_reducible refine Kd.C_alloc ?_ _) | (with_reducible refine Kd.C_drewN ?_ _) | (with_reducible refine Kd.C_drew ?_) | exact HR118_0.out)) x12_5 p119 q119
                                    cases e119
                                    replace p119 := eq_true p119
                                    replace q119 := eq_true q119
                                    have p120 : 0 ≤ ((ji57) : Int) := of_decide_eq_true (by assumption)
                                    have q120 : (ji57) < (x5_5.length : Int) := of_decide_eq_true (by assumption)
                                    obtain ⟨ad120, e120, hx120_0⟩ := Kd.at_int (Kd.R_reads' HO_5.out).2.2 (ji57) p120 q120
                                    obtain rfl : (⟨go24, 0, none⟩ : Addr) = ad120 := (by injection e120)
                                    (first | simp only [add_plain] at hx120_0 | simp only [add_at] at hx120_0 | simp only [Addr.add, Nat.zero_add] at hx120_0 | skip)
                                    replace p120 := eq_true p120
                                    replace q120 := eq_true q120
                                    refine start_ (n := 43) (S := fun w' => w'.cell? (ad118.add (x10_4).toNat) = some (.slice (some ad119) (rd_L1 x7_2 x10_4).length c118_0) ∧ w'.cell? (ad119.add (x12_5).toNat) = some (.int .i64 (rd (rd_L1 x7_2 x10_4) x12_5)) ∧ w'.cell? ⟨go24, ((ji57)).toNat, none⟩ = some (.int .i64 (rd x5_5 (ji57)))) (ds := []) #[false,false,false,false,false,false,false,false,false,false,false,false,false,false,false,false,false,false,false,false,false,false,false,false,false,false,false,false,false,false,false,false,false,false,false,false,false,false,false,false,false,false,false] (by kernel_rfl) rfl rfl ⟨hx118_0, hx119_0, hx120_0⟩ (fun hHeld => ?_); refine with_tabW spec_ShortestRound.tab28 spec_ShortestRound.bits28 (fun HT_ HW_ => ?_)
                                    generalize wr.drew = w62 at HO_5 HO_7 BK101 HB HL118_0 HR118_0 hx118_0 hx119_0 hx120_0 hHeld ⊢
                                    refine pure_ (i := 0) (N := some 86) (v := ?_) (a' := ?_) #[true,false,false,false,false,false,false,false,false,false,false,false,false,false,false,false,false,false,false,false,false,false,false,false,false,false,false,false,false,false,false,false,false,false,false,false,false,false,false,false,false,false,false] rfl rfl (any_of HT_.out (by kernel_rfl)) (fun _ _ _ h => h) (Or.inl ⟨by rfl, ?_⟩) ?_ ?_
                                    rotate_left; (· intro w'; go_simp; with_reducible rfl); rotate_left; (· simp only [Act.put, q6d2_1, q6d2_2, q6d2_3, i64_w, i32_w]; rfl)
                                    refine pure_ (i := 1) (N := some 87) (v := ?_) (a' := ?_) #[true,true,false,false,false,false,false,false,false,false,false,false,false,false,false,false,false,false,false,false,false,false,false,false,false,false,false,false,false,false,false,false,false,false,false,false,false,false,false,false,false,false,false] rfl rfl (any_of HT_.out (by kernel_rfl)) (fun _ _ _ h => h) (Or.inl ⟨by rfl, ?_⟩) ?_ ?_
                                    rotate_left; (· intro w'; go_simp; with_reducible rfl); rotate_left; (· simp only [Act.put, q6d2_1, q6d2_2, q6d2_3, i64_w, i32_w]; rfl)
                                    refine pure_ (i := 2) (N := some 88) (v := ?_) (a' := ?_) #[true,true,true,false,false,false,false,false,false,false,false,false,false,false,false,false,false,false,false,false,false,false,false,false,false,false,false,false,false,false,false,false,false,false,false,false,false,false,false,false,false,false,false] rfl rfl (any_of HT_.out (by kernel_rfl)) (fun _ _ _ h => h) (Or.inl ⟨by rfl, ?_⟩) ?_ ?_
                                    rotate_left; (· intro w'; go_simp; with_reducible rfl); rotate_left; (· simp only [Act.put, q6d2_1, q6d2_2, q6d2_3, i64_w, i32_w]; rfl)
                                    refine pure_ (i := 3) (N := some 89) (v := ?_) (a' := ?_) #[true,true,true,true,false,false,false,false,false,false,false,false,false,false,false,false,false,false,false,false,false,false,false,false,false,false,false,false,false,false,false,false,false,false,false,false,false,false,false,false,false,false,false] rfl rfl (any_of HT_.out (by kernel_rfl)) (fun _ _ _ h => h) (Or.inl ⟨by rfl, ?_⟩) ?_ ?_
                                    rotate_left; (· intro w'; go_simp; with_reducible rfl); rotate_left; (· simp only [Act.put, q6d2_1, q6d2_2, q6d2_3, i64_w, i32_w]; rfl)
                                    refine pure_ (i := 4) (N := some 90) (v := ?_) (a' := ?_) #[true,true,true,true,true,false,false,false,false,false,false,false,false,false,false,false,false,false,false,false,false,false,false,false,false,false,false,false,false,false,false,false,false,false,false,false,false,false,false,false,false,false,false] rfl rfl (any_of HT_.out (by kernel_rfl)) (fun _ _ _ h => h) (Or.inl ⟨by rfl, ?_⟩) ?_ ?_
                                    rotate_left; (· intro w'; go_simp; with_reducible rfl); rotate_left; (· simp only [Act.put, q6d2_1, q6d2_2, q6d2_3, i64_w, i32_w]; rfl)
                                    refine pure_ (i := 5) (N := some 91) (v := ?_) (a' := ?_) #[true,true,true,true,true,true,false,false,false,false,false,false,false,false,false,false,false,false,false,false,false,false,false,false,false,false,false,false,false,false,false,false,false,false,false,false,false,false,false,false,false,false,false] rfl rfl (any_of HT_.out (by kernel_rfl)) (fun _ _ _ h => h) (Or.inl ⟨by rfl, ?_⟩) ?_ ?_
                                    rotate_left; (· intro w'; go_simp; with_reducible rfl); rotate_left; (· simp only [Act.put, q6d2_1, q6d2_2, q6d2_3, i64_w, i32_w]; rfl)
                                    refine pure_ (i := 6) (N := some 92) (v := ?_) (a' := ?_) #[true,true,true,true,true,true,true,false,false,false,false,false,false,false,false,false,false,false,false,false,false,false,false,false,false,false,false,false,false,false,false,false,false,false,false,false,false,false,false,false,false,false,false] rfl rfl (any_of HT_.out (by kernel_rfl)) (fun _ _ _ h => h) (Or.inl ⟨by rfl, ?_⟩) ?_ ?_
                                    rotate_left; (· intro w'; go_simp; with_reducible rfl); rotate_left; (· simp only [Act.put, q6d2_1, q6d2_2, q6d2_3, i64_w, i32_w]; rfl)
                                    refine pure_ (i := 7) (N := some 93) (v := ?_) (a' := ?_) #[true,true,true,true,true,true,true,true,false,false,false,false,false,false,false,false,false,false,false,false,false,false,false,false,false,false,false,false,false,false,false,false,false,false,false,false,false,false,false,false,false,false,false] rfl rfl (any_of HT_.out (by kernel_rfl)) (fun _ _ _ h => h) (Or.inl ⟨by rfl, ?_⟩) ?_ ?_
                                    rotate_left; (· intro w'; go_simp; with_reducible rfl); rotate_left; (· simp only [Act.put, q6d2_1, q6d2_2, q6d2_3, i64_w, i32_w]; rfl)
                                    refine pure_ (i := 8) (N := some 94) (v := ?_) (a' := ?_) #[true,true,true,true,true,true,true,true,true,false,false,false,false,false,false,false,false,false,false,false,false,false,false,false,false,false,false,false,false,false,false,false,false,false,false,false,false,false,false,false,false,false,false] rfl rfl (any_of HT_.out (by kernel_rfl)) (fun _ _ _ h => h) (Or.inl ⟨by rfl, ?_⟩) ?_ ?_
                                    rotate_left; (· intro w'; go_simp; with_reducible rfl); rotate_left; (· simp only [Act.put, q6d2_1, q6d2_2, q6d2_3, i64_w, i32_w]; rfl)
                                    refine pure_ (i := 9) (N := some 95) (v := ?_) (a' := ?_) #[true,true,true,true,true,true,true,true,true,true,false,false,false,false,false,false,false,false,false,false,false,false,false,false,false,false,false,false,false,false,false,false,false,false,false,false,false,false,false,false,false,false,false] rfl rfl (any_of HT_.out (by kernel_rfl)) (fun _ _ _ h => h) (Or.inl ⟨by rfl, ?_⟩) ?_ ?_
                                    rotate_left; (· intro w'; go_simp; with_reducible rfl); rotate_left; (· simp only [Act.put, q6d2_1, q6d2_2, q6d2_3, i64_w, i32_w]; rfl)
                                    refine pure_ (i := 11) (N := some 97) (v := ?_) (a' := ?_) #[true,true,true,true,true,true,true,true,true,true,false,true,false,false,false,false,false,false,false,false,false,false,false,false,false,false,false,false,false,false,false,false,false,false,false,false,false,false,false,false,false,false,false] rfl rfl (any_of HT_.out (by kernel_rfl)) (fun _ _ _ h => h) (Or.inl ⟨by rfl, ?_⟩) ?_ ?_
                                    rotate_left; (· intro w'; go_simp; with_reducible rfl); rotate_left; (· simp only [Act.put, q6d2_1, q6d2_2, q6d2_3, i64_w, i32_w]; rfl)
                                    refine take_ (i := 10) (N := some 96) (v := ?_) (a' := ?_) #[true,true,true,true,true,true,true,true,true,true,true,true,false,false,false,false,false,false,false,false,false,false,false,false,false,false,false,false,false,false,false,false,false,false,false,false,false,false,false,false,false,false,false] rfl rfl (take_ofW HT_.out HW_.out (by kernel_rfl)) (fun _ _ _ h => h) (Or.inl ⟨by rfl, ?_⟩) hHeld ?_ ?_
                                    rotate_left; (· rintro w' ⟨s0, s1, s2⟩; go_simp; with_reducible rfl); rotate_left; (· simp only [Act.put, q6d2_1, q6d2_2, q6d2_3, i64_w, i32_w]; rfl)
                                    refine pure_ (i := 12) (N := some 98) (v := ?_) (a' := ?_) #[true,true,true,true,true,true,true,true,true,true,true,true,true,false,false,false,false,false,false,false,false,false,false,false,false,false,false,false,false,false,false,false,false,false,false,false,false,false,false,false,false,false,false] rfl rfl (any_of HT_.out (by kernel_rfl)) (fun _ _ _ h => h) (Or.inl ⟨by rfl, ?_⟩) ?_ ?_
                                    rotate_left; (· intro w'; go_simp; with_reducible rfl); rotate_left; (· simp only [Act.put, q6d2_1, q6d2_2, q6d2_3, i64_w, i32_w]; rfl)
                                    refine take_ (i := 13) (N := some 99) (v := ?_) (a' := ?_) #[true,true,true,true,true,true,true,true,true,true,true,true,true,true,false,false,false,false,false,false,false,false,false,false,false,false,false,false,false,false,false,false,false,false,false,false,false,false,false,false,false,false,false] rfl rfl (take_ofW HT_.out HW_.out (by kernel_rfl)) (fun _ _ _ h => h) (Or.inl ⟨by rfl, ?_⟩) hHeld ?_ ?_
                                    rotate_left; (· rintro w' ⟨s0, s1, s2⟩; go_simp; with_reducible rfl); rotate_left; (· simp only [Act.put, q6d2_1, q6d2_2, q6d2_3, i64_w, i32_w]; rfl)
                                    refine pure_ (i := 14) (N := some 100) (v := ?_) (a' := ?_) #[true,true,true,true,true,true,true,true,true,true,true,true,true,true,true,false,false,false,false,false,false,false,false,false,false,false,false,false,false,false,false,false,false,false,false,false,false,false,false,false,false,false,false] rfl rfl (any_of HT_.out (by kernel_rfl)) (fun _ _ _ h => h) (Or.inl ⟨by rfl, ?_⟩) ?_ ?_
                                    rotate_left; (· intro w'; go_simp; with_reducible rfl); rotate_left; (· simp only [Act.put, q6d2_1, q6d2_2, q6d2_3, i64_w, i32_w]; rfl)
                                    refine pure_ (i := 15) (N := some 101) (v := ?_) (a' := ?_) #[true,true,true,true,true,true,true,true,true,true,true,true,true,true,true,true,false,false,false,false,false,false,false,false,false,false,false,false,false,false,false,false,false,false,false,false,false,false,false,false,false,false,false] rfl rfl (any_of HT_.out (by kernel_rfl)) (fun _ _ _ h => h) (Or.inl ⟨by rfl, ?_⟩) ?_ ?_
                                    rotate_left; (· intro w'; go_simp; with_reducible rfl); rotate_left; (· simp only [Act.put, q6d2_1, q6d2_2, q6d2_3, i64_w, i32_w]; rfl)
                                    refine pure_ (i := 16) (N := some 102) (v := ?_) (a' := ?_) #[true,true,true,true,true,true,true,true,true,true,true,true,true,true,true,true,true,false,false,false,false,false,false,false,false,false,false,false,false,false,false,false,false,false,false,false,false,false,false,false,false,false,false] rfl rfl (any_of HT_.out (by kernel_rfl)) (fun _ _ _ h => h) (Or.inl ⟨by rfl, ?_⟩) ?_ ?_
                                    rotate_left; (· intro w'; go_simp; with_reducible rfl); rotate_left; (· simp only [Act.put, q6d2_1, q6d2_2, q6d2_3, i64_w, i32_w]; rfl)
                                    refine pure_ (i := 17) (N := some 103) (v := ?_) (a' := ?_) #[true,true,true,true,true,true,true,true,true,true,true,true,true,true,true,true,true,true,false,false,false,false,false,false,false,false,false,false,false,false,false,false,false,false,false,false,false,false,false,false,false,false,false] rfl rfl (any_of HT_.out (by kernel_rfl)) (fun _ _ _ h => h) (Or.inl ⟨by rfl, ?_⟩) ?_ ?_
                                    rotate_left; (· intro w'; go_simp; with_reducible rfl); rotate_left; (· simp only [Act.put, q6d2_1, q6d2_2, q6d2_3, i64_w, i32_w]; rfl)
                                    refine pure_ (i := 18) (N := some 104) (v := ?_) (a' := ?_) #[true,true,true,true,true,true,true,true,true,true,true,true,true,true,true,true,true,true,true,false,false,false,false,false,false,false,false,false,false,false,false,false,false,false,false,false,false,false,false,false,false,false,false] rfl rfl (any_of HT_.out (by kernel_rfl)) (fun _ _ _ h => h) (Or.inl ⟨by rfl, ?_⟩) ?_ ?_
                                    rotate_left; (· intro w'; go_simp; with_reducible rfl); rotate_left; (· simp only [Act.put, q6d2_1, q6d2_2, q6d2_3, i64_w, i32_w]; rfl)
                                    refine pure_ (i := 19) (N := some 105) (v := ?_) (a' := ?_) #[true,true,true,true,true,true,true,true,true,true,true,true,true,true,true,true,true,true,true,true,false,false,false,false,false,false,false,false,false,false,false,false,false,false,false,false,false,false,false,false,false,false,false] rfl rfl (any_of HT_.out (by kernel_rfl)) (fun _ _ _ h => h) (Or.inl ⟨by rfl, ?_⟩) ?_ ?_
                                    rotate_left; (· intro w'; go_simp; with_reducible rfl); rotate_left; (· simp only [Act.put, q6d2_1, q6d2_2, q6d2_3, i64_w, i32_w]; rfl)
                                    refine pure_ (i := 20) (N := some 106) (v := ?_) (a' := ?_) #[true,true,true,true,true,true,true,true,true,true,true,true,true,true,true,true,true,true,true,true,true,false,false,false,false,false,false,false,false,false,false,false,false,false,false,false,false,false,false,false,false,false,false] rfl rfl (any_of HT_.out (by kernel_rfl)) (fun _ _ _ h => h) (Or.inl ⟨by rfl, ?_⟩) ?_ ?_
                                    rotate_left; (· intro w'; go_simp; with_reducible rfl); rotate_left; (· simp only [Act.put, q6d2_1, q6d2_2, q6d2_3, i64_w, i32_w]; rfl)
                                    refine pure_ (i := 21) (N := some 107) (v := ?_) (a' := ?_) #[true,true,true,true,true,true,true,true,true,true,true,true,true,true,true,true,true,true,true,true,true,true,false,false,false,false,false,false,false,false,false,false,false,false,false,false,false,false,false,false,false,false,false] rfl rfl (any_of HT_.out (by kernel_rfl)) (fun _ _ _ h => h) (Or.inl ⟨by rfl, ?_⟩) ?_ ?_
                                    rotate_left; (· intro w'; go_simp; with_reducible rfl); rotate_left; (· simp only [Act.put, q6d2_1, q6d2_2, q6d2_3, i64_w, i32_w]; rfl)
                                    refine take_ (i := 22) (N := some 108) (v := ?_) (a' := ?_) #[true,true,true,true,true,true,true,true,true,true,true,true,true,true,true,true,true,true,true,true,true,true,true,false,false,false,false,false,false,false,false,false,false,false,false,false,false,false,false,false,false,false,false] rfl rfl (take_ofW HT_.out HW_.out (by kernel_rfl)) (fun _ _ _ h => h) (Or.inl ⟨by rfl, ?_⟩) hHeld ?_ ?_
                                    rotate_left; (· rintro w' ⟨s0, s1, s2⟩; go_simp; with_reducible rfl); rotate_left; (· simp only [Act.put, q6d2_1, q6d2_2, q6d2_3, i64_w, i32_w]; rfl)
                                    refine pure_ (i := 23) (N := some 109) (v := ?_) (a' := ?_) #[true,true,true,true,true,true,true,true,true,true,true,true,true,true,true,true,true,true,true,true,true,true,true,true,false,false,false,false,false,false,false,false,false,false,false,false,false,false,false,false,false,false,false] rfl rfl (any_of HT_.out (by kernel_rfl)) (fun _ _ _ h => h) (Or.inl ⟨by rfl, ?_⟩) ?_ ?_
                                    rotate_left; (· intro w'; go_simp; with_reducible rfl); rotate_left; (· simp only [Act.put, q6d2_1, q6d2_2, q6d2_3, i64_w, i32_w]; rfl)
                                    refine pure_ (i := 24) (N := some 110) (v := ?_) (a' := ?_) #[true,true,true,true,true,true,true,true,true,true,true,true,true,true,true,true,true,true,true,true,true,true,true,true,true,false,false,false,false,false,false,false,false,false,false,false,false,false,false,false,false,false,false] rfl rfl (any_of HT_.out (by kernel_rfl)) (fun _ _ _ h => h) (Or.inl ⟨by rfl, ?_⟩) ?_ ?_
                                    rotate_left; (· intro w'; go_simp; with_reducible rfl); rotate_left; (· simp only [Act.put, q6d2_1, q6d2_2, q6d2_3, i64_w, i32_w]; rfl)
                                    refine pure_ (i := 25) (N := some 111) (v := undef) (a' := ?_) #[true,true,true,true,true,true,true,true,true,true,true,true,true,true,true,true,true,true,true,true,true,true,true,true,true,true,false,false,false,false,false,false,false,false,false,false,false,false,false,false,false,false,false] rfl rfl (any_of HT_.out (by kernel_rfl)) (fun _ _ _ h => h) (Or.inr ⟨by rfl, rfl⟩) ?_ ?_
                                    rotate_left
                                    ·
                                     simp only [Act.put, q6d2_1, q6d2_2, q6d2_3, i64_w, i32_w]
                                     rfl
                                    refine pure_ (i := 26) (N := some 112) (v := undef) (a' := ?_) #[true,true,true,true,true,true,true,true,true,true,true,true,true,true,true,true,true,true,true,true,true,true,true,true,true,true,true,false,false,false,false,false,false,false,false,false,false,false,false,false,false,false,false] rfl rfl (any_of HT_.out (by kernel_rfl)) (fun _ _ _ h => h) (Or.inr ⟨by rfl, rfl⟩) ?_ ?_
                                    rotate_left
                                    ·
                                     simp only [Act.put, q6d2_1, q6d2_2, q6d2_3, i64_w, i32_w]
                                     rfl
                                    refine pure_ (i := 27) (N := some 113) (v := undef) (a' := ?_) #[true,true,true,true,true,true,true,true,true,true,true,true,true,true,true,true,true,true,true,true,true,true,true,true,true,true,true,true,false,false,false,false,false,false,false,false,false,false,false,false,false,false,false] rfl rfl (any_of HT_.out (by kernel_rfl)) (fun _ _ _ h => h) (Or.inr ⟨by rfl, rfl⟩) ?_ ?_
                                    rotate_left
                                    ·
                                     simp only [Act.put, q6d2_1, q6d2_2, q6d2_3, i64_w, i32_w]
                                     rfl
                                    refine pure_ (i := 28) (N := some 114) (v := undef) (a' := ?_) #[true,true,true,true,true,true,true,true,true,true,true,true,true,true,true,true,true,true,true,true,true,true,true,true,true,true,true,true,true,false,false,false,false,false,false,false,false,false,false,false,false,false,false] rfl rfl (any_of HT_.out (by kernel_rfl)) (fun _ _ _ h => h) (Or.inr ⟨by rfl, rfl⟩) ?_ ?_
                                    rotate_left
                                    ·
                                     simp only [Act.put, q6d2_1, q6d2_2, q6d2_3, i64_w, i32_w]
                                     rfl
                                    refine pure_ (i := 29) (N := some 115) (v := undef) (a' := ?_) #[true,true,true,true,true,true,true,true,true,true,true,true,true,true,true,true,true,true,true,true,true,true,true,true,true,true,true,true,true,true,false,false,false,false,false,false,false,false,false,false,false,false,false] rfl rfl (any_of HT_.out (by kernel_rfl)) (fun _ _ _ h => h) (Or.inr ⟨by rfl, rfl⟩) ?_ ?_
                                    rotate_left
                                    ·
                                     simp only [Act.put, q6d2_1, q6d2_2, q6d2_3, i64_w, i32_w]
                                     rfl
                                    refine pure_ (i := 30) (N := some 116) (v := undef) (a' := ?_) #[true,true,true,true,true,true,true,true,true,true,true,true,true,true,true,true,true,true,true,true,true,true,true,true,true,true,true,true,true,true,true,false,false,false,false,false,false,false,false,false,false,false,false] rfl rfl (any_of HT_.out (by kernel_rfl)) (fun _ _ _ h => h) (Or.inr ⟨by rfl, rfl⟩) ?_ ?_
                                    rotate_left
                                    ·
                                     simp only [Act.put, q6d2_1, q6d2_2, q6d2_3, i64_w, i32_w]
                                     rfl
                                    refine pure_ (i := 31) (N := some 117) (v := undef) (a' := ?_) #[true,true,true,true,true,true,true,true,true,true,true,true,true,true,true,true,true,true,true,true,true,true,true,true,true,true,true,true,true,true,true,true,false,false,false,false,false,false,false,false,false,false,false] rfl rfl (any_of HT_.out (by kernel_rfl)) (fun _ _ _ h => h) (Or.inr ⟨by rfl, rfl⟩) ?_ ?_
                                    rotate_left
                                    ·
                                     simp only [Act.put, q6d2_1, q6d2_2, q6d2_3, i64_w, i32_w]
                                     rfl
                                    refine pure_ (i := 32) (N := some 118) (v := undef) (a' := ?_) #[true,true,true,true,true,true,true,true,true,true,true,true,true,true,true,true,true,true,true,true,true,true,true,true,true,true,true,true,true,true,true,true,true,false,false,false,false,false,false,false,false,false,false] rfl rfl (any_of HT_.out (by kernel_rfl)) (fun _ _ _ h => h) (Or.inr ⟨by rfl, rfl⟩) ?_ ?_
                                    rotate_left
                                    ·
                                     simp only [Act.put, q6d2_1, q6d2_2, q6d2_3, i64_w, i32_w]
                                     rfl
                                    refine pure_ (i := 33) (N := some 119) (v := undef) (a' := ?_) #[true,true,true,true,true,true,true,true,true,true,true,true,true,true,true,true,true,true,true,true,true,true,true,true,true,true,true,true,true,true,true,true,true,true,false,false,false,false,false,false,false,false,false] rfl rfl (any_of HT_.out (by kernel_rfl)) (fun _ _ _ h => h) (Or.inr ⟨by rfl, rfl⟩) ?_ ?_
                                    rotate_left
                                    ·
                                     simp only [Act.put, q6d2_1, q6d2_2, q6d2_3, i64_w, i32_w]
                                     rfl
                                    refine pure_ (i := 34) (N := some 120) (v := undef) (a' := ?_) #[true,true,true,true,true,true,true,true,true,true,true,true,true,true,true,true,true,true,true,true,true,true,true,true,true,true,true,true,true,true,true,true,true,true,true,false,false,false,false,false,false,false,false] rfl rfl (any_of HT_.out (by kernel_rfl)) (fun _ _ _ h => h) (Or.inr ⟨by rfl, rfl⟩) ?_ ?_
                                    rotate_left
                                    ·
                                     simp only [Act.put, q6d2_1, q6d2_2, q6d2_3, i64_w, i32_w]
                                     rfl
                                    refine pure_ (i := 35) (N := some 121) (v := undef) (a' := ?_) #[true,true,true,true,true,true,true,true,true,true,true,true,true,true,true,true,true,true,true,true,true,true,true,true,true,true,true,true,true,true,true,true,true,true,true,true,false,false,false,false,false,false,false] rfl rfl (any_of HT_.out (by kernel_rfl)) (fun _ _ _ h => h) (Or.inr ⟨by rfl, rfl⟩) ?_ ?_
                                    rotate_left
                                    ·
                                     simp only [Act.put, q6d2_1, q6d2_2, q6d2_3, i64_w, i32_w]
                                     rfl
                                    refine pure_ (i := 36) (N := some 122) (v := undef) (a' := ?_) #[true,true,true,true,true,true,true,true,true,true,true,true,true,true,true,true,true,true,true,true,true,true,true,true,true,true,true,true,true,true,true,true,true,true,true,true,true,false,false,false,false,false,false] rfl rfl (any_of HT_.out (by kernel_rfl)) (fun _ _ _ h => h) (Or.inr ⟨by rfl, rfl⟩) ?_ ?_
                                    rotate_left
                                    ·
                                     simp only [Act.put, q6d2_1, q6d2_2, q6d2_3, i64_w, i32_w]
                                     rfl
                                    refine pure_ (i := 37) (N := some 123) (v := undef) (a' := ?_) #[true,true,true,true,true,true,true,true,true,true,true,true,true,true,true,true,true,true,true,true,true,true,true,true,true,true,true,true,true,true,true,true,true,true,true,true,true,true,false,false,false,false,false] rfl rfl (any_of HT_.out (by kernel_rfl)) (fun _ _ _ h => h) (Or.inr ⟨by rfl, rfl⟩) ?_ ?_
                                    rotate_left
                                    ·
                                     simp only [Act.put, q6d2_1, q6d2_2, q6d2_3, i64_w, i32_w]
                                     rfl
                                    refine pure_ (i := 38) (N := some 124) (v := undef) (a' := ?_) #[true,true,true,true,true,true,true,true,true,true,true,true,true,true,true,true,true,true,true,true,true,true,true,true,true,true,true,true,true,true,true,true,true,true,true,true,true,true,true,false,false,false,false] rfl rfl (any_of HT_.out (by kernel_rfl)) (fun _ _ _ h => h) (Or.inr ⟨by rfl, rfl⟩) ?_ ?_
                                    rotate_left
                                    ·
                                     simp only [Act.put, q6d2_1, q6d2_2, q6d2_3, i64_w, i32_w]
                                     rfl
                                    refine pure_ (i := 39) (N := some 125) (v := undef) (a' := ?_) #[true,true,true,true,true,true,true,true,true,true,true,true,true,true,true,true,true,true,true,true,true,true,true,true,true,true,true,true,true,true,true,true,true,true,true,true,true,true,true,true,false,false,false] rfl rfl (any_of HT_.out (by kernel_rfl)) (fun _ _ _ h => h) (Or.inr ⟨by rfl, rfl⟩) ?_ ?_
                                    rotate_left
                                    ·
                                     simp only [Act.put, q6d2_1, q6d2_2, q6d2_3, i64_w, i32_w]
                                     rfl
                                    refine pure_ (i := 40) (N := some 126) (v := undef) (a' := ?_) #[true,true,true,true,true,true,true,true,true,true,true,true,true,true,true,true,true,true,true,true,true,true,true,true,true,true,true,true,true,true,true,true,true,true,true,true,true,true,true,true,true,false,false] rfl rfl (any_of HT_.out (by kernel_rfl)) (fun _ _ _ h => h) (Or.inr ⟨by rfl, rfl⟩) ?_ ?_
                                    rotate_left
                                    ·
                                     simp only [Act.put, q6d2_1, q6d2_2, q6d2_3, i64_w, i32_w]
                                     rfl
                                    refine pure_ (i := 41) (N := some 127) (v := ?_) (a' := ?_) #[true,true,true,true,true,true,true,true,true,true,true,true,true,true,true,true,true,true,true,true,true,true,true,true,true,true,true,true,true,true,true,true,true,true,true,true,true,true,true,true,true,true,false] rfl rfl (any_of HT_.out (by kernel_rfl)) (fun _ _ _ h => h) (Or.inl ⟨by rfl, ?_⟩) ?_ ?_
                                    rotate_left; (· intro w'; go_simp; with_reducible rfl); rotate_left; (· simp only [Act.put, q6d2_1, q6d2_2, q6d2_3, i64_w, i32_w]; rfl)
                                    refine pure_ (i := 42) (N := some 128) (v := ?_) (a' := ?_) #[true,true,true,true,true,true,true,true,true,true,true,true,true,true,true,true,true,true,true,true,true,true,true,true,true,true,true,true,true,true,true,true,true,true,true,true,true,true,true,true,true,true,true] rfl rfl (any_of HT_.out (by kernel_rfl)) (fun _ _ _ h => h) (Or.inl ⟨by rfl, ?_⟩) ?_ ?_
                                    rotate_left; (· intro w'; go_simp; with_reducible rfl); rotate_left; (· simp only [Act.put, q6d2_1, q6d2_2, q6d2_3, i64_w, i32_w]; rfl)
                                    refine done_ (done_of HT_.out (by kernel_rfl)) ?_
                                    have p121 : 0 ≤ (x10_4 : Int) := of_decide_eq_true (by assumption)
                                    have q121 : x10_4 < (x7_2.length : Int) := of_decide_eq_true (by assumption)
                                    obtain ⟨ad121, A121_0, c121_0, e121, hx121_0, hl121_0, hi121_0⟩ := at_L1 (Kd.S_reads' HO_7.out).2.2 x10_4 p121 q121
                                    obtain rfl : ad118 = ad121 := (by injection e121)
                                    obtain ⟨ce121, hce121, hMe121, hcc121⟩ := Kd.S_get HO_7.out [] x10_4 p121 (by first | exact q121 | exact of_decide_eq_true (by assumption) | (have e_ := (Kd.S_reads' HO_7.out).1; omega))
                                    obtain ⟨ve121_0, rfl, ge121_0⟩ := hMe121
                                    have hv121_0 := hcc121 0 _ rfl
                                    rw [Nat.add_zero, show ((Kd.slice 2 (Kd.int .i64))).sz = 1 from rfl, Nat.mul_one] at hv121_0
                                    replace hv121_0 := Option.some.inj (hv121_0.symm.trans hx121_0)
                                    rw [hv121_0] at ge121_0
                                    have HL121_0 := Aside0.mk (show Kd.R (Kd.int .i64) 2 _ _ _ _ (rd_L1 x7_2 x10_4) from ge121_0)
                                    clear hv121_0 ge121_0
                                    clear hcc121 hce121
                                    have HR121_0 := Aside0.mk hi121_0
                                    have HC121_0 := Aside0.mk hl121_0
                                    clear hi121_0 hl121_0
                                    replace p121 := eq_true p121
                                    replace q121 := eq_true q121
                                    have ea_ := Option.some.inj (hx118_0.symm.trans hx121_0)
                                    injection ea_ with ea_ en_ ec_
                                    subst ea_
                                    subst ec_
                                    clear en_
                                    have p122 : 0 ≤ (x12_5 : Int) := of_decide_eq_true (by assumption)
                                    have q122 : x12_5 < ((rd_L1 x7_2 x10_4).length : Int) := of_decide_eq_true (by assumption)
                                    obtain ⟨ad122, e122, hx122_0⟩ := Kd.at_int (by repeat (first | (with_reducible exact HR121_0.out) | (with_reducible refine Kd.C_alloc ?_ _) | (with_reducible refine Kd.C_drewN ?_ _) | (with_reducible refine Kd.C_drew ?_) | exact HR121_0.out)) x12_5 p122 q122
                                    cases e122
                                    replace p122 := eq_true p122
                                    replace q122 := eq_true q122
                                    have p61 : 0 ≤ ((ji57) : Int) := of_decide_eq_true (by assumption)
                                    have q61 : ((ji57) : Int) < ((x5_5.length : Int) : Int) := of_decide_eq_true (by assumption)
                                    obtain ⟨hx61_0, hf61_0⟩ := Kd.R_celln 0 HO_5.out ((ji57) : Int) p61 q61
                                    replace p61 := eq_true p61
                                    replace q61 := eq_true q61
                                    obtain ⟨hy64_, hz64_⟩ := Kd.R_celln 0 HO_5.out ((ji57) : Int) (of_decide_eq_true (by assumption)) (of_decide_eq_true (by assumption))
                                    have HP64 := Kd.R_putg HO_5.out ((ji57) : Int) (wrap64 ((rd x5_4 (ji41)) + (rd (rd_L1 x7_2 x10_4) x12_5)))
                                    try go_wp2_with (first | ((with_reducible refine gate_store (t := 2) (p := 142) rfl ?_); refine store_event (t := 2) (p := 142) (v := ?vo_w65) (w1 := (w62.setCell ⟨go24, ((ji57) : Int).toNat, none⟩ (.int .i64 (wrap64 ((rd x5_4 (ji41)) + (rd (rd_L1 x7_2 x10_4) x12_5)))))) ?hg ?ho ?hn ?hr ?_; (case ho => rfl); (case hg => rfl); (case hn => rfl); (case hr => first | (go_simp; done) | (go_simp; rfl)); intro w65 hw; have hg : w62.grownBy w65 (some go24) := (by rw [hw]; exact HP64.2); have hp_ : Kd.R (Kd.int .i64) 2 w65 w.heap.size (fun _ => True) (.slice (some ⟨go24, 0, none⟩) x5_5.length co15) y123 := (by rw [hw, Ny123.out]; exact HP64.1); clear HP64; have n0_ := Aside0.mk (hp_); have n1_ := Aside0.mk (Kd.S_after (v := (.slice (some ⟨go24, 0, none⟩) x5_5.length co15)) (v1 := (.slice (some ⟨go24, 0, none⟩) x5_5.length co15)) (ok := (fun _ => True)) (by (with_reducible repeat (first | apply Kd.S_alloc | apply Kd.S_drewN | apply Kd.S_drew)); exact Kd.S_mono HO_7.out (fun _ hk => ⟨trivial, hk⟩)) hg (.inl rfl)); have n2_ := Aside0.mk (blk_grown (g := gb101) (o := .cells #[.int .i64 a0_0, .int .i64 a0_1] 26 (0, 0)) (by (with_reducible repeat (first | refine blk_drewN ?_ _ | refine blk_drew ?_ | refine blk_alloc ?_ _)); exact BK101.out) hg (Kd.R_ne HO_5.out BK101.out (by decide))); have n3_ := Aside0.mk (Kd.R_after (v := (.slice (some ⟨go24, 0, none⟩) x5_5.length co15)) (v1 := (.slice (some ⟨go24, 0, none⟩) x5_5.length co15)) (ok := (fun k_ => some k_ ≠ (.slice (some ad118) x7_2.length co63 : Value).ownBlock)) (by exact Kd.R_mono HL118_0.out (fun _ hk => ⟨hk.2, hk.1⟩)) hg (.inl rfl)); have n4_ := Aside0.mk (Kd.R_after (v := (.slice (some ⟨go24, 0, none⟩) x5_5.length co15)) (v1 := (.slice (some ⟨go24, 0, none⟩) x5_5.length co15)) (ok := (fun k_ => some k_ ≠ (.slice (some ad118) x7_2.length co63 : Value).ownBlock)) (by exact Kd.R_mono HL121_0.out (fun _ hk => ⟨hk.2, hk.1⟩)) hg (.inl rfl)); have n5_ := Aside0.mk ((by rw [hw]; exact below_set (HB.out) GB24.out : Below w.heap.size w w65)); clear HO_5; clear HO_7; clear BK101; clear HL118_0; clear HL121_0; clear HB; have HO_5 := n0_; have HO_7 := n1_; have BK101 := n2_; have HL118_0 := n3_; have HL121_0 := n4_; have HB := n5_; clear n0_ n1_ n2_ n3_ n4_ n5_; clear hg hw hp_))
                                    (try simp only [← hl5_5])
                                    go_roundg k5
                                    case measure => have := HK1.out; have := HK2.out; have := HK3.out; have := HK4.out; have := HK5.out; omega
                                    case rel => exact ⟨(y123), (wrap64 (x12_5 + 1)), (by first | rfl | simp), H', ⟨by have := HK1.out; have := HK2.out; have := HK3.out; have := HK4.out; have := HK5.out; omega⟩, ⟨by (try simp only [hl5_1]); (try simp only [hl5_2]); (try simp only [hl5_3]); (try simp only [hl5_4]); (try simp only [hl5_5]); exact HO_5.out⟩, ⟨by (try simp only [hl5_1]); (try simp only [hl5_2]); (try simp only [hl5_3]); (try simp only [hl5_4]); (try simp only [hl5_5]); (with_reducible repeat (first | apply Kd.S_alloc | apply Kd.S_drewN | apply Kd.S_drew)); exact Kd.S_mono HO_7.out (fun _ hk => hk.2)⟩, ⟨by (try simp only [hl5_1]); (try simp only [hl5_2]); (try simp only [hl5_3]); (try simp only [hl5_4]); (try simp only [hl5_5]); (with_reducible repeat (first | refine blk_drewN ?_ _ | refine blk_drew ?_ | refine blk_alloc ?_ _)); exact BK101.out⟩, ⟨by repeat (first | (with_reducible first | exact HB.out | apply below_alloc | apply pw_below_drewN | apply below_drew1 | refine below_set ?_ GE101.out) | exact HB.out)⟩⟩
                                   ·
                                    rw [if_neg c60] at H
                                    have c60b0 : decide ((rd x5_5 (ji57)) < 0) = false := decide_eq_false c60
                                    clear c60
                                    by_cases c66 : (wrap64 ((rd x5_4 (ji41)) + (rd (rd_L1 x7_2 x10_4) x12_5))) < (rd x5_5 (ji57))
                                    ·
                                     rw [if_pos c66] at H
                                     have c66b0 : decide ((wrap64 ((rd x5_4 (ji41)) + (rd (rd_L1 x7_2 x10_4) x12_5))) < (rd x5_5 (ji57))) = true := decide_eq_true c66
                                     clear c66
                                     obtain ⟨y129, hy129⟩ : ∃ y_ : List Int, y_ = (x5_5.set ((ji57) : Int).toNat (wrap64 ((rd x5_4 (ji41)) + (rd (rd_L1 x7_2 x10_4) x12_5)))) := ⟨_, rfl⟩
                                     replace H : (spec_ShortestRound.l4 k5 a0_0 y129 x7_2 x9_3 x10_4 (rd x5_4 (ji41)) (wrap64 (x12_5 + 1))) = some (r1, r2) := by first | (rw [hy129]; with_reducible exact H) | (have H2_ := (Option.bind_some _ _).symm.trans H; rw [hy129]; with_reducible exact H2_) | (have H2_ := (Option.bind_some _ _).symm.trans H; with_reducible exact H2_) | with_reducible exact H | (rw [hy129]; exact H) | exact H
                                     have Ny129 := Aside0.mk hy129
                                     clear hy129
                                     have H' := Aside0.mk H
                                     clear H
                                     try go_wp2
                                     have n0_ := Aside0.mk (Kd.R_drew HO_5.out)
                                     have n1_ := Aside0.mk (Kd.S_drew HO_7.out)
                                     have n2_ := Aside0.mk (blk_drew BK101.out)
                                     have n3_ := Aside0.mk (below_drew1 HB.out)
                                     clear HO_5
                                     clear HO_7
                                     clear BK101
                                     clear HB
                                     have HO_5 := n0_
                                     have HO_7 := n1_
                                     have BK101 := n2_
                                     have HB := n3_
                                     clear n0_ n1_ n2_ n3_
                                     obtain ⟨Ao69, co69, eo69⟩ := Kd.S_slice HO_7.out
                                     (first | subst eo69 | (injection eo69 with f1_ f2_ f3_; have f4_ := f1_.symm; have f5_ := f3_.symm; clear f1_ f2_ f3_; subst f4_; subst f5_))
                                     have p118 : 0 ≤ (x10_4 : Int) := of_decide_eq_true (by assumption)
                                     have q118 : x10_4 < (x7_2.length : Int) := of_decide_eq_true (by assumption)
                                     obtain ⟨ad118, A118_0, c118_0, e118, hx118_0, hl118_0, hi118_0⟩ := at_L1 (Kd.S_reads' HO_7.out).2.2 x10_4 p118 q118
                                     cases e118
                                     obtain ⟨ce118, hce118, hMe118, hcc118⟩ := Kd.S_get HO_7.out [] x10_4 p118 (by first | exact q118 | exact of_decide_eq_true (by assumption) | (have e_ := (Kd.S_reads' HO_7.out).1; omega))
                                     obtain ⟨ve118_0, rfl, ge118_0⟩ := hMe118
                                     have hv118_0 := hcc118 0 _ rfl
                                     rw [Nat.add_zero, show ((Kd.slice 2 (Kd.int .i64))).sz = 1 from rfl, Nat.mul_one] at hv118_0
                                     replace hv118_0 := Option.some.inj (hv118_0.symm.trans hx118_0)
                                     rw [hv118_0] at ge118_0
                                     have HL118_0 := Aside0.mk (show Kd.R (Kd.int .i64) 2 _ _ _ _ (rd_L1 x7_2 x10_4) from ge118_0)
                                     clear hv118_0 ge118_0
                                     clear hcc118 hce118
                                     have HR118_0 := Aside0.mk hi118_0
                                     have HC118_0 := Aside0.mk hl118_0
                                     clear hi118_0 hl118_0
                                     replace p118 := eq_true p118
                                     replace q118 := eq_true q118
                                     have p119 : 0 ≤ (x12_5 : Int) := of_decide_eq_true (by assumption)
                                     have q119 : x12_5 < ((rd_L1 x7_2 x10_4).length : Int) := of_decide_eq_true (by assumption)
                                     obtain ⟨ad119, e119, hx119_0⟩ := Kd.at_int (by repeat (first | (with_reducible exact HR118_0.out) | (with_reducible refine Kd.C_alloc ?_ _) | (with_reducible refine Kd.C_drewN ?_ _) | (with_reducible refine Kd.C_drew ?_) | exact HR118_0.out)) x12_5 p119 q119
                                     cases e119
                                     replace p119 := eq_true p119
                                     replace q119 := eq_true q119
                                     have p120 : 0 ≤ ((ji57) : Int) := of_decide_eq_true (by assumption)
                                     have q120 : (ji57) < (x5_5.length : Int) := of_decide_eq_true (by assumption)
                                     obtain ⟨ad120, e120, hx120_0⟩ := Kd.at_int (Kd.R_reads' HO_5.out).2.2 (ji57) p120 q120
                                     obtain rfl : (⟨go24, 0, none⟩ : Addr) = ad120 := (by injection e120)
                                     (first | simp only [add_plain] at hx120_0 | simp only [add_at] at hx120_0 | simp only [Addr.add, Nat.zero_add] at hx120_0 | skip)
                                     replace p120 := eq_true p120
                                     replace q120 := eq_true q120
                                     have p124 : 0 ≤ (x10_4 : Int) := of_decide_eq_true (by assumption)
                                     have q124 : x10_4 < (x7_2.length : Int) := of_decide_eq_true (by assumption)
                                     obtain ⟨ad124, A124_0, c124_0, e124, hx124_0, hl124_0, hi124_0⟩ := at_L1 (Kd.S_reads' HO_7.out).2.2 x10_4 p124 q124
                                     obtain rfl : ad118 = ad124 := (by injection e124)
                                     obtain ⟨ce124, hce124, hMe124, hcc124⟩ := Kd.S_get HO_7.out [] x10_4 p124 (by first | exact q124 | exact of_decide_eq_true (by assumption) | (have e_ := (Kd.S_reads' HO_7.out).1; omega))
                                     obtain ⟨ve124_0, rfl, ge124_0⟩ := hMe124
                                     have hv124_0 := hcc124 0 _ rfl
                                     rw [Nat.add_zero, show ((Kd.slice 2 (Kd.int .i64))).sz = 1 from rfl, Nat.mul_one] at hv124_0
                                     replace hv124_0 := Option.some.inj (hv124_0.symm.trans hx124_0)
                                     rw [hv124_0] at ge124_0
                                     have HL124_0 := Aside0.mk (show Kd.R (Kd.int .i64) 2 _ _ _ _ (rd_L1 x7_2 x10_4) from ge124_0)
                                     clear hv124_0 ge124_0
                                     clear hcc124 hce124
                                     have HR124_0 := Aside0.mk hi124_0
                                     have HC124_0 := Aside0.mk hl124_0
                                     clear hi124_0 hl124_0
                                     replace p124 := eq_true p124
                                     replace q124 := eq_true q124
                                     have ea_ := Option.some.inj (hx118_0.symm.trans hx124_0)
                                     injection ea_ with ea_ en_ ec_
                                     subst ea_
                                     subst ec_
                                     clear en_
                                     have p125 : 0 ≤ (x12_5 : Int) := of_decide_eq_true (by assumption)
                                     have q125 : x12_5 < ((rd_L1 x7_2 x10_4).length : Int) := of_decide_eq_true (by assumption)
                                     obtain ⟨ad125, e125, hx125_0⟩ := Kd.at_int (by repeat (first | (with_reducible exact HR124_0.out) | (with_reducible refine Kd.C_alloc ?_ _) | (with_reducible refine Kd.C_drewN ?_ _) | (with_reducible refine Kd.C_drew ?_) | exact HR124_0.out)) x12_5 p125 q125
                                     cases e125
                                     replace p125 := eq_true p125
                                     replace q125 := eq_true q125
                                     have p126 : 0 ≤ ((ji57) : Int) := of_decide_eq_true (by assumption)
                                     have q126 : (ji57) < (x5_5.length : Int) := of_decide_eq_true (by assumption)
                                     obtain ⟨ad126, e126, hx126_0⟩ := Kd.at_int (Kd.R_reads' HO_5.out).2.2 (ji57) p126 q126
                                     obtain rfl : (⟨go24, 0, none⟩ : Addr) = ad126 := (by injection e126)
                                     (first | simp only [add_plain] at hx126_0 | simp only [add_at] at hx126_0 | simp only [Addr.add, Nat.zero_add] at hx126_0 | skip)
                                     replace p126 := eq_true p126
                                     replace q126 := eq_true q126
                                     refine start_ (n := 43) (S := fun w' => w'.cell? (ad118.add (x10_4).toNat) = some (.slice (some ad119) (rd_L1 x7_2 x10_4).length c118_0) ∧ w'.cell? (ad119.add (x12_5).toNat) = some (.int .i64 (rd (rd_L1 x7_2 x10_4) x12_5)) ∧ w'.cell? ⟨go24, ((ji57)).toNat, none⟩ = some (.int .i64 (rd x5_5 (ji57))) ∧ w'.cell? (ad118.add (x10_4).toNat) = some (.slice (some ad119) (rd_L1 x7_2 x10_4).length c118_0) ∧ w'.cell? (ad119.add (x12_5).toNat) = some (.int .i64 (rd (rd_L1 x7_2 x10_4) x12_5)) ∧ w'.cell? ⟨go24, ((ji57)).toNat, none⟩ = some (.int .i64 (rd x5_5 (ji57)))) (ds := []) #[false,false,false,false,false,false,false,false,false,false,false,false,false,false,false,false,false,false,false,false,false,false,false,false,false,false,false,false,false,false,false,false,false,false,false,false,false,false,false,false,false,false,false] (by kernel_rfl) rfl rfl ⟨hx118_0, hx119_0, hx120_0, hx124_0, hx125_0, hx126_0⟩ (fun hHeld => ?_); refine with_tabW spec_ShortestRound.tab28 spec_ShortestRound.bits28 (fun HT_ HW_ => ?_)
                                     generalize wr.drew = w68 at HO_5 HO_7 BK101 HB HL118_0 HL124_0 HR118_0 HR124_0 hx118_0 hx119_0 hx120_0 hx124_0 hx125_0 hx126_0 hHeld ⊢
                                     refine pure_ (i := 0) (N := some 86) (v := ?_) (a' := ?_) #[true,false,false,false,false,false,false,false,false,false,false,false,false,false,false,false,false,false,false,false,false,false,false,false,false,false,false,false,false,false,false,false,false,false,false,false,false,false,false,false,false,false,false] rfl rfl (any_of HT_.out (by kernel_rfl)) (fun _ _ _ h => h) (Or.inl ⟨by rfl, ?_⟩) ?_ ?_
                                     rotate_left; (· intro w'; go_simp; with_reducible rfl); rotate_left; (· simp only [Act.put, q6d2_1, q6d2_2, q6d2_3, i64_w, i32_w]; rfl)
                                     refine pure_ (i := 1) (N := some 87) (v := ?_) (a' := ?_) #[true,true,false,false,false,false,false,false,false,false,false,false,false,false,false,false,false,false,false,false,false,false,false,false,false,false,false,false,false,false,false,false,false,false,false,false,false,false,false,false,false,false,false] rfl rfl (any_of HT_.out (by kernel_rfl)) (fun _ _ _ h => h) (Or.inl ⟨by rfl, ?_⟩) ?_ ?_
                                     rotate_left; (· intro w'; go_simp; with_reducible rfl); rotate_left; (· simp only [Act.put, q6d2_1, q6d2_2, q6d2_3, i64_w, i32_w]; rfl)
                                     refine pure_ (i := 2) (N := some 88) (v := ?_) (a' := ?_) #[true,true,true,false,false,false,false,false,false,false,false,false,false,false,false,false,false,false,false,false,false,false,false,false,false,false,false,false,false,false,false,false,false,false,false,false,false,false,false,false,false,false,false] rfl rfl (any_of HT_.out (by kernel_rfl)) (fun _ _ _ h => h) (Or.inl ⟨by rfl, ?_⟩) ?_ ?_
                                     rotate_left; (· intro w'; go_simp; with_reducible rfl); rotate_left; (· simp only [Act.put, q6d2_1, q6d2_2, q6d2_3, i64_w, i32_w]; rfl)
                                     refine pure_ (i := 3) (N := some 89) (v := ?_) (a' := ?_) #[true,true,true,true,false,false,false,false,false,false,false,false,false,false,false,false,false,false,false,false,false,false,false,false,false,false,false,false,false,false,false,false,false,false,false,false,false,false,false,false,false,false,false] rfl rfl (any_of HT_.out (by kernel_rfl)) (fun _ _ _ h => h) (Or.inl ⟨by rfl, ?_⟩) ?_ ?_
                                     rotate_left; (· intro w'; go_simp; with_reducible rfl); rotate_left; (· simp only [Act.put, q6d2_1, q6d2_2, q6d2_3, i64_w, i32_w]; rfl)
                                     refine pure_ (i := 4) (N := some 90) (v := ?_) (a' := ?_) #[true,true,true,true,true,false,false,false,false,false,false,false,false,false,false,false,false,false,false,false,false,false,false,false,false,false,false,false,false,false,false,false,false,false,false,false,false,false,false,false,false,false,false] rfl rfl (any_of HT_.out (by kernel_rfl)) (fun _ _ _ h => h) (Or.inl ⟨by rfl, ?_⟩) ?_ ?_
                                     rotate_left; (· intro w'; go_simp; with_reducible rfl); rotate_left; (· simp only [Act.put, q6d2_1, q6d2_2, q6d2_3, i64_w, i32_w]; rfl)
                                     refine pure_ (i := 5) (N := some 91) (v := ?_) (a' := ?_) #[true,true,true,true,true,true,false,false,false,false,false,false,false,false,false,false,false,false,false,false,false,false,false,false,false,false,false,false,false,false,false,false,false,false,false,false,false,false,false,false,false,false,false] rfl rfl (any_of HT_.out (by kernel_rfl)) (fun _ _ _ h => h) (Or.inl ⟨by rfl, ?_⟩) ?_ ?_
                                     rotate_left; (· intro w'; go_simp; with_reducible rfl); rotate_left; (· simp only [Act.put, q6d2_1, q6d2_2, q6d2_3, i64_w, i32_w]; rfl)
                                     refine pure_ (i := 6) (N := some 92) (v := ?_) (a' := ?_) #[true,true,true,true,true,true,true,false,false,false,false,false,false,false,false,false,false,false,false,false,false,false,false,false,false,false,false,false,false,false,false,false,false,false,false,false,false,false,false,false,false,false,false] rfl rfl (any_of HT_.out (by kernel_rfl)) (fun _ _ _ h => h) (Or.inl ⟨by rfl, ?_⟩) ?_ ?_
                                     rotate_left; (· intro w'; go_simp; with_reducible rfl); rotate_left; (· simp only [Act.put, q6d2_1, q6d2_2, q6d2_3, i64_w, i32_w]; rfl)
                                     refine pure_ (i := 7) (N := some 93) (v := ?_) (a' := ?_) #[true,true,true,true,true,true,true,true,false,false,false,false,false,false,false,false,false,false,false,false,false,false,false,false,false,false,false,false,false,false,false,false,false,false,false,false,false,false,false,false,false,false,false] rfl rfl (any_of HT_.out (by kernel_rfl)) (fun _ _ _ h => h) (Or.inl ⟨by rfl, ?_⟩) ?_ ?_
                                     rotate_left; (· intro w'; go_simp; with_reducible rfl); rotate_left; (· simp only [Act.put, q6d2_1, q6d2_2, q6d2_3, i64_w, i32_w]; rfl)
                                     refine pure_ (i := 8) (N := some 94) (v := ?_) (a' := ?_) #[true,true,true,true,true,true,true,true,true,false,false,false,false,false,false,false,false,false,false,false,false,false,false,false,false,false,false,false,false,false,false,false,false,false,false,false,false,false,false,false,false,false,false] rfl rfl (any_of HT_.out (by kernel_rfl)) (fun _ _ _ h => h) (Or.inl ⟨by rfl, ?_⟩) ?_ ?_
                                     rotate_left; (· intro w'; go_simp; with_reducible rfl); rotate_left; (· simp only [Act.put, q6d2_1, q6d2_2, q6d2_3, i64_w, i32_w]; rfl)
                                     refine pure_ (i := 9) (N := some 95) (v := ?_) (a' := ?_) #[true,true,true,true,true,true,true,true,true,true,false,false,false,false,false,false,false,false,false,false,false,false,false,false,false,false,false,false,false,false,false,false,false,false,false,false,false,false,false,false,false,false,false] rfl rfl (any_of HT_.out (by kernel_rfl)) (fun _ _ _ h => h) (Or.inl ⟨by rfl, ?_⟩) ?_ ?_
                                     rotate_left; (· intro w'; go_simp; with_reducible rfl); rotate_left; (· simp only [Act.put, q6d2_1, q6d2_2, q6d2_3, i64_w, i32_w]; rfl)
                                     refine pure_ (i := 11) (N := some 97) (v := ?_) (a' := ?_) #[true,true,true,true,true,true,true,true,true,true,false,true,false,false,false,false,false,false,false,false,false,false,false,false,false,false,false,false,false,false,false,false,false,false,false,false,false,false,false,false,false,false,false] rfl rfl (any_of HT_.out (by kernel_rfl)) (fun _ _ _ h => h) (Or.inl ⟨by rfl, ?_⟩) ?_ ?_
                                     rotate_left; (· intro w'; go_simp; with_reducible rfl); rotate_left; (· simp only [Act.put, q6d2_1, q6d2_2, q6d2_3, i64_w, i32_w]; rfl)
                                     refine take_ (i := 10) (N := some 96) (v := ?_) (a' := ?_) #[true,true,true,true,true,true,true,true,true,true,true,true,false,false,false,false,false,false,false,false,false,false,false,false,false,false,false,false,false,false,false,false,false,false,false,false,false,false,false,false,false,false,false] rfl rfl (take_ofW HT_.out HW_.out (by kernel_rfl)) (fun _ _ _ h => h) (Or.inl ⟨by rfl, ?_⟩) hHeld ?_ ?_
                                     rotate_left; (· rintro w' ⟨s0, s1, s2, s3, s4, s5⟩; go_simp; with_reducible rfl); rotate_left; (· simp only [Act.put, q6d2_1, q6d2_2, q6d2_3, i64_w, i32_w]; rfl)
                                     refine pure_ (i := 12) (N := some 98) (v := ?_) (a' := ?_) #[true,true,true,true,true,true,true,true,true,true,true,true,true,false,false,false,false,false,false,false,false,false,false,false,false,false,false,false,false,false,false,false,false,false,false,false,false,false,false,false,false,false,false] rfl rfl (any_of HT_.out (by kernel_rfl)) (fun _ _ _ h => h) (Or.inl ⟨by rfl, ?_⟩) ?_ ?_
                                     rotate_left; (· intro w'; go_simp; with_reducible rfl); rotate_left; (· simp only [Act.put, q6d2_1, q6d2_2, q6d2_3, i64_w, i32_w]; rfl)
                                     refine take_ (i := 13) (N := some 99) (v := ?_) (a' := ?_) #[true,true,true,true,true,true,true,true,true,true,true,true,true,true,false,false,false,false,false,false,false,false,false,false,false,false,false,false,false,false,false,false,false,false,false,false,false,false,false,false,false,false,false] rfl rfl (take_ofW HT_.out HW_.out (by kernel_rfl)) (fun _ _ _ h => h) (Or.inl ⟨by rfl, ?_⟩) hHeld ?_ ?_
                                     rotate_left; (· rintro w' ⟨s0, s1, s2, s3, s4, s5⟩; go_simp; with_reducible rfl); rotate_left; (· simp only [Act.put, q6d2_1, q6d2_2, q6d2_3, i64_w, i32_w]; rfl)
                                     refine pure_ (i := 14) (N := some 100) (v := ?_) (a' := ?_) #[true,true,true,true,true,true,true,true,true,true,true,true,true,true,true,false,false,false,false,false,false,false,false,false,false,false,false,false,false,false,false,false,false,false,false,false,false,false,false,false,false,false,false] rfl rfl (any_of HT_.out (by kernel_rfl)) (fun _ _ _ h => h) (Or.inl ⟨by rfl, ?_⟩) ?_ ?_
                                     rotate_left; (· intro w'; go_simp; with_reducible rfl); rotate_left; (· simp only [Act.put, q6d2_1, q6d2_2, q6d2_3, i64_w, i32_w]; rfl)
                                     refine pure_ (i := 15) (N := some 101) (v := ?_) (a' := ?_) #[true,true,true,true,true,true,true,true,true,true,true,true,true,true,true,true,false,false,false,false,false,false,false,false,false,false,false,false,false,false,false,false,false,false,false,false,false,false,false,false,false,false,false] rfl rfl (any_of HT_.out (by kernel_rfl)) (fun _ _ _ h => h) (Or.inl ⟨by rfl, ?_⟩) ?_ ?_
                                     rotate_left; (· intro w'; go_simp; with_reducible rfl); rotate_left; (· simp only [Act.put, q6d2_1, q6d2_2, q6d2_3, i64_w, i32_w]; rfl)
                                     refine pure_ (i := 16) (N := some 102) (v := ?_) (a' := ?_) #[true,true,true,true,true,true,true,true,true,true,true,true,true,true,true,true,true,false,false,false,false,false,false,false,false,false,false,false,false,false,false,false,false,false,false,false,false,false,false,false,false,false,false] rfl rfl (any_of HT_.out (by kernel_rfl)) (fun _ _ _ h => h) (Or.inl ⟨by rfl, ?_⟩) ?_ ?_
                                     rotate_left; (· intro w'; go_simp; with_reducible rfl); rotate_left; (· simp only [Act.put, q6d2_1, q6d2_2, q6d2_3, i64_w, i32_w]; rfl)
                                     refine pure_ (i := 17) (N := some 103) (v := ?_) (a' := ?_) #[true,true,true,true,true,true,true,true,true,true,true,true,true,true,true,true,true,true,false,false,false,false,false,false,false,false,false,false,false,false,false,false,false,false,false,false,false,false,false,false,false,false,false] rfl rfl (any_of HT_.out (by kernel_rfl)) (fun _ _ _ h => h) (Or.inl ⟨by rfl, ?_⟩) ?_ ?_
                                     rotate_left; (· intro w'; go_simp; with_reducible rfl); rotate_left; (· simp only [Act.put, q6d2_1, q6d2_2, q6d2_3, i64_w, i32_w]; rfl)
                                     refine pure_ (i := 18) (N := some 104) (v := ?_) (a' := ?_) #[true,true,true,true,true,true,true,true,true,true,true,true,true,true,true,true,true,true,true,false,false,false,false,false,false,false,false,false,false,false,false,false,false,false,false,false,false,false,false,false,false,false,false] rfl rfl (any_of HT_.out (by kernel_rfl)) (fun _ _ _ h => h) (Or.inl ⟨by rfl, ?_⟩) ?_ ?_
                                     rotate_left; (· intro w'; go_simp; with_reducible rfl); rotate_left; (· simp only [Act.put, q6d2_1, q6d2_2, q6d2_3, i64_w, i32_w]; rfl)
                                     refine pure_ (i := 19) (N := some 105) (v := ?_) (a' := ?_) #[true,true,true,true,true,true,true,true,true,true,true,true,true,true,true,true,true,true,true,true,false,false,false,false,false,false,false,false,false,false,false,false,false,false,false,false,false,false,false,false,false,false,false] rfl rfl (any_of HT_.out (by kernel_rfl)) (fun _ _ _ h => h) (Or.inl ⟨by rfl, ?_⟩) ?_ ?_
                                     rotate_left; (· intro w'; go_simp; with_reducible rfl); rotate_left; (· simp only [Act.put, q6d2_1, q6d2_2, q6d2_3, i64_w, i32_w]; rfl)
                                     refine pure_ (i := 20) (N := some 106) (v := ?_) (a' := ?_) #[true,true,true,true,true,true,true,true,true,true,true,true,true,true,true,true,true,true,true,true,true,false,false,false,false,false,false,false,false,false,false,false,false,false,false,false,false,false,false,false,false,false,false] rfl rfl (any_of HT_.out (by kernel_rfl)) (fun _ _ _ h => h) (Or.inl ⟨by rfl, ?_⟩) ?_ ?_
                                     rotate_left; (· intro w'; go_simp; with_reducible rfl); rotate_left; (· simp only [Act.put, q6d2_1, q6d2_2, q6d2_3, i64_w, i32_w]; rfl)
                                     refine pure_ (i := 21) (N := some 107) (v := ?_) (a' := ?_) #[true,true,true,true,true,true,true,true,true,true,true,true,true,true,true,true,true,true,true,true,true,true,false,false,false,false,false,false,false,false,false,false,false,false,false,false,false,false,false,false,false,false,false] rfl rfl (any_of HT_.out (by kernel_rfl)) (fun _ _ _ h => h) (Or.inl ⟨by rfl, ?_⟩) ?_ ?_
                                     rotate_left; (· intro w'; go_simp; with_reducible rfl); rotate_left; (· simp only [Act.put, q6d2_1, q6d2_2, q6d2_3, i64_w, i32_w]; rfl)
                                     refine take_ (i := 22) (N := some 108) (v := ?_) (a' := ?_) #[true,true,true,true,true,true,true,true,true,true,true,true,true,true,true,true,true,true,true,true,true,true,true,false,false,false,false,false,false,false,false,false,false,false,false,false,false,false,false,false,false,false,false] rfl rfl (take_ofW HT_.out HW_.out (by kernel_rfl)) (fun _ _ _ h => h) (Or.inl ⟨by rfl, ?_⟩) hHeld ?_ ?_
                                     rotate_left; (· rintro w' ⟨s0, s1, s2, s3, s4, s5⟩; go_simp; with_reducible rfl); rotate_left; (· simp only [Act.put, q6d2_1, q6d2_2, q6d2_3, i64_w, i32_w]; rfl)
                                     refine pure_ (i := 23) (N := some 109) (v := ?_) (a' := ?_) #[true,true,true,true,true,true,true,true,true,true,true,true,true,true,true,true,true,true,true,true,true,true,true,true,false,false,false,false,false,false,false,false,false,false,false,false,false,false,false,false,false,false,false] rfl rfl (any_of HT_.out (by kernel_rfl)) (fun _ _ _ h => h) (Or.inl ⟨by rfl, ?_⟩) ?_ ?_
                                     rotate_left; (· intro w'; go_simp; with_reducible rfl); rotate_left; (· simp only [Act.put, q6d2_1, q6d2_2, q6d2_3, i64_w, i32_w]; rfl)
                                     refine pure_ (i := 24) (N := some 110) (v := ?_) (a' := ?_) #[true,true,true,true,true,true,true,true,true,true,true,true,true,true,true,true,true,true,true,true,true,true,true,true,true,false,false,false,false,false,false,false,false,false,false,false,false,false,false,false,false,false,false] rfl rfl (any_of HT_.out (by kernel_rfl)) (fun _ _ _ h => h) (Or.inl ⟨by rfl, ?_⟩) ?_ ?_
                                     rotate_left; (· intro w'; go_simp; with_reducible rfl); rotate_left; (· simp only [Act.put, q6d2_1, q6d2_2, q6d2_3, i64_w, i32_w]; rfl)
                                     refine pure_ (i := 25) (N := some 111) (v := ?_) (a' := ?_) #[true,true,true,true,true,true,true,true,true,true,true,true,true,true,true,true,true,true,true,true,true,true,true,true,true,true,false,false,false,false,false,false,false,false,false,false,false,false,false,false,false,false,false] rfl rfl (any_of HT_.out (by kernel_rfl)) (fun _ _ _ h => h) (Or.inl ⟨by rfl, ?_⟩) ?_ ?_
                                     rotate_left; (· intro w'; go_simp; with_reducible rfl); rotate_left; (· simp only [Act.put, q6d2_1, q6d2_2, q6d2_3, i64_w, i32_w]; rfl)
                                     refine pure_ (i := 26) (N := some 112) (v := ?_) (a' := ?_) #[true,true,true,true,true,true,true,true,true,true,true,true,true,true,true,true,true,true,true,true,true,true,true,true,true,true,true,false,false,false,false,false,false,false,false,false,false,false,false,false,false,false,false] rfl rfl (any_of HT_.out (by kernel_rfl)) (fun _ _ _ h => h) (Or.inl ⟨by rfl, ?_⟩) ?_ ?_
                                     rotate_left; (· intro w'; go_simp; with_reducible rfl); rotate_left; (· simp only [Act.put, q6d2_1, q6d2_2, q6d2_3, i64_w, i32_w]; rfl)
                                     refine pure_ (i := 27) (N := some 113) (v := ?_) (a' := ?_) #[true,true,true,true,true,true,true,true,true,true,true,true,true,true,true,true,true,true,true,true,true,true,true,true,true,true,true,true,false,false,false,false,false,false,false,false,false,false,false,false,false,false,false] rfl rfl (any_of HT_.out (by kernel_rfl)) (fun _ _ _ h => h) (Or.inl ⟨by rfl, ?_⟩) ?_ ?_
                                     rotate_left; (· intro w'; go_simp; with_reducible rfl); rotate_left; (· simp only [Act.put, q6d2_1, q6d2_2, q6d2_3, i64_w, i32_w]; rfl)
                                     refine pure_ (i := 28) (N := some 114) (v := ?_) (a' := ?_) #[true,true,true,true,true,true,true,true,true,true,true,true,true,true,true,true,true,true,true,true,true,true,true,true,true,true,true,true,true,false,false,false,false,false,false,false,false,false,false,false,false,false,false] rfl rfl (any_of HT_.out (by kernel_rfl)) (fun _ _ _ h => h) (Or.inl ⟨by rfl, ?_⟩) ?_ ?_
                                     rotate_left; (· intro w'; go_simp; with_reducible rfl); rotate_left; (· simp only [Act.put, q6d2_1, q6d2_2, q6d2_3, i64_w, i32_w]; rfl)
                                     refine pure_ (i := 30) (N := some 116) (v := ?_) (a' := ?_) #[true,true,true,true,true,true,true,true,true,true,true,true,true,true,true,true,true,true,true,true,true,true,true,true,true,true,true,true,true,false,true,false,false,false,false,false,false,false,false,false,false,false,false] rfl rfl (any_of HT_.out (by kernel_rfl)) (fun _ _ _ h => h) (Or.inl ⟨by rfl, ?_⟩) ?_ ?_
                                     rotate_left; (· intro w'; go_simp; with_reducible rfl); rotate_left; (· simp only [Act.put, q6d2_1, q6d2_2, q6d2_3, i64_w, i32_w]; rfl)
                                     refine pure_ (i := 34) (N := some 120) (v := ?_) (a' := ?_) #[true,true,true,true,true,true,true,true,true,true,true,true,true,true,true,true,true,true,true,true,true,true,true,true,true,true,true,true,true,false,true,false,false,false,true,false,false,false,false,false,false,false,false] rfl rfl (any_of HT_.out (by kernel_rfl)) (fun _ _ _ h => h) (Or.inl ⟨by rfl, ?_⟩) ?_ ?_
                                     rotate_left; (· intro w'; go_simp; with_reducible rfl); rotate_left; (· simp only [Act.put, q6d2_1, q6d2_2, q6d2_3, i64_w, i32_w]; rfl)
                                     refine pure_ (i := 35) (N := some 121) (v := ?_) (a' := ?_) #[true,true,true,true,true,true,true,true,true,true,true,true,true,true,true,true,true,true,true,true,true,true,true,true,true,true,true,true,true,false,true,false,false,false,true,true,false,false,false,false,false,false,false] rfl rfl (any_of HT_.out (by kernel_rfl)) (fun _ _ _ h => h) (Or.inl ⟨by rfl, ?_⟩) ?_ ?_
                                     rotate_left; (· intro w'; go_simp; with_reducible rfl); rotate_left; (· simp only [Act.put, q6d2_1, q6d2_2, q6d2_3, i64_w, i32_w]; rfl)
                                     refine pure_ (i := 36) (N := some 122) (v := ?_) (a' := ?_) #[true,true,true,true,true,true,true,true,true,true,true,true,true,true,true,true,true,true,true,true,true,true,true,true,true,true,true,true,true,false,true,false,false,false,true,true,true,false,false,false,false,false,false] rfl rfl (any_of HT_.out (by kernel_rfl)) (fun _ _ _ h => h) (Or.inl ⟨by rfl, ?_⟩) ?_ ?_
                                     rotate_left; (· intro w'; go_simp; with_reducible rfl); rotate_left; (· simp only [Act.put, q6d2_1, q6d2_2, q6d2_3, i64_w, i32_w]; rfl)
                                     refine pure_ (i := 37) (N := some 123) (v := ?_) (a' := ?_) #[true,true,true,true,true,true,true,true,true,true,true,true,true,true,true,true,true,true,true,true,true,true,true,true,true,true,true,true,true,false,true,false,false,false,true,true,true,true,false,false,false,false,false] rfl rfl (any_of HT_.out (by kernel_rfl)) (fun _ _ _ h => h) (Or.inl ⟨by rfl, ?_⟩) ?_ ?_
                                     rotate_left; (· intro w'; go_simp; with_reducible rfl); rotate_left; (· simp only [Act.put, q6d2_1, q6d2_2, q6d2_3, i64_w, i32_w]; rfl)
                                     refine pure_ (i := 38) (N := some 124) (v := ?_) (a' := ?_) #[true,true,true,true,true,true,true,true,true,true,true,true,true,true,true,true,true,true,true,true,true,true,true,true,true,true,true,true,true,false,true,false,false,false,true,true,true,true,true,false,false,false,false] rfl rfl (any_of HT_.out (by kernel_rfl)) (fun _ _ _ h => h) (Or.inl ⟨by rfl, ?_⟩) ?_ ?_
                                     rotate_left; (· intro w'; go_simp; with_reducible rfl); rotate_left; (· simp only [Act.put, q6d2_1, q6d2_2, q6d2_3, i64_w, i32_w]; rfl)
                                     refine take_ (i := 29) (N := some 115) (v := ?_) (a' := ?_) #[true,true,true,true,true,true,true,true,true,true,true,true,true,true,true,true,true,true,true,true,true,true,true,true,true,true,true,true,true,true,true,false,false,false,true,true,true,true,true,false,false,false,false] rfl rfl (take_ofW HT_.out HW_.out (by kernel_rfl)) (fun _ _ _ h => h) (Or.inl ⟨by rfl, ?_⟩) hHeld ?_ ?_
                                     rotate_left; (· rintro w' ⟨s0, s1, s2, s3, s4, s5⟩; go_simp; with_reducible rfl); rotate_left; (· simp only [Act.put, q6d2_1, q6d2_2, q6d2_3, i64_w, i32_w]; rfl)
                                     refine pure_ (i := 31) (N := some 117) (v := ?_) (a' := ?_) #[true,true,true,true,true,true,true,true,true,true,true,true,true,true,true,true,true,true,true,true,true,true,true,true,true,true,true,true,true,true,true,true,false,false,true,true,true,true,true,false,false,false,false] rfl rfl (any_of HT_.out (by kernel_rfl)) (fun _ _ _ h => h) (Or.inl ⟨by rfl, ?_⟩) ?_ ?_
                                     rotate_left; (· intro w'; go_simp; with_reducible rfl); rotate_left; (· simp only [Act.put, q6d2_1, q6d2_2, q6d2_3, i64_w, i32_w]; rfl)
                                     refine take_ (i := 32) (N := some 118) (v := ?_) (a' := ?_) #[true,true,true,true,true,true,true,true,true,true,true,true,true,true,true,true,true,true,true,true,true,true,true,true,true,true,true,true,true,true,true,true,true,false,true,true,true,true,true,false,false,false,false] rfl rfl (take_ofW HT_.out HW_.out (by kernel_rfl)) (fun _ _ _ h => h) (Or.inl ⟨by rfl, ?_⟩) hHeld ?_ ?_
                                     rotate_left; (· rintro w' ⟨s0, s1, s2, s3, s4, s5⟩; go_simp; with_reducible rfl); rotate_left; (· simp only [Act.put, q6d2_1, q6d2_2, q6d2_3, i64_w, i32_w]; rfl)
                                     refine pure_ (i := 33) (N := some 119) (v := ?_) (a' := ?_) #[true,true,true,true,true,true,true,true,true,true,true,true,true,true,true,true,true,true,true,true,true,true,true,true,true,true,true,true,true,true,true,true,true,true,true,true,true,true,true,false,false,false,false] rfl rfl (any_of HT_.out (by kernel_rfl)) (fun _ _ _ h => h) (Or.inl ⟨by rfl, ?_⟩) ?_ ?_
                                     rotate_left; (· intro w'; go_simp; with_reducible rfl); rotate_left; (· simp only [Act.put, q6d2_1, q6d2_2, q6d2_3, i64_w, i32_w]; rfl)
                                     refine take_ (i := 39) (N := some 125) (v := ?_) (a' := ?_) #[true,true,true,true,true,true,true,true,true,true,true,true,true,true,true,true,true,true,true,true,true,true,true,true,true,true,true,true,true,true,true,true,true,true,true,true,true,true,true,true,false,false,false] rfl rfl (take_ofW HT_.out HW_.out (by kernel_rfl)) (fun _ _ _ h => h) (Or.inl ⟨by rfl, ?_⟩) hHeld ?_ ?_
                                     rotate_left; (· rintro w' ⟨s0, s1, s2, s3, s4, s5⟩; go_simp; with_reducible rfl); rotate_left; (· simp only [Act.put, q6d2_1, q6d2_2, q6d2_3, i64_w, i32_w]; rfl)
                                     refine pure_ (i := 40) (N := some 126) (v := ?_) (a' := ?_) #[true,true,true,true,true,true,true,true,true,true,true,true,true,true,true,true,true,true,true,true,true,true,true,true,true,true,true,true,true,true,true,true,true,true,true,true,true,true,true,true,true,false,false] rfl rfl (any_of HT_.out (by kernel_rfl)) (fun _ _ _ h => h) (Or.inl ⟨by rfl, ?_⟩) ?_ ?_
                                     rotate_left; (· intro w'; go_simp; with_reducible rfl); rotate_left; (· simp only [Act.put, q6d2_1, q6d2_2, q6d2_3, i64_w, i32_w]; rfl)
                                     refine pure_ (i := 41) (N := some 127) (v := ?_) (a' := ?_) #[true,true,true,true,true,true,true,true,true,true,true,true,true,true,true,true,true,true,true,true,true,true,true,true,true,true,true,true,true,true,true,true,true,true,true,true,true,true,true,true,true,true,false] rfl rfl (any_of HT_.out (by kernel_rfl)) (fun _ _ _ h => h) (Or.inl ⟨by rfl, ?_⟩) ?_ ?_
                                     rotate_left; (· intro w'; go_simp; with_reducible rfl); rotate_left; (· simp only [Act.put, q6d2_1, q6d2_2, q6d2_3, i64_w, i32_w]; rfl)
                                     refine pure_ (i := 42) (N := some 128) (v := ?_) (a' := ?_) #[true,true,true,true,true,true,true,true,true,true,true,true,true,true,true,true,true,true,true,true,true,true,true,true,true,true,true,true,true,true,true,true,true,true,true,true,true,true,true,true,true,true,true] rfl rfl (any_of HT_.out (by kernel_rfl)) (fun _ _ _ h => h) (Or.inl ⟨by rfl, ?_⟩) ?_ ?_
                                     rotate_left; (· intro w'; go_simp; with_reducible rfl); rotate_left; (· simp only [Act.put, q6d2_1, q6d2_2, q6d2_3, i64_w, i32_w]; rfl)
                                     refine done_ (done_of HT_.out (by kernel_rfl)) ?_
                                     have p127 : 0 ≤ (x10_4 : Int) := of_decide_eq_true (by assumption)
                                     have q127 : x10_4 < (x7_2.length : Int) := of_decide_eq_true (by assumption)
                                     obtain ⟨ad127, A127_0, c127_0, e127, hx127_0, hl127_0, hi127_0⟩ := at_L1 (Kd.S_reads' HO_7.out).2.2 x10_4 p127 q127
                                     obtain rfl : ad118 = ad127 := (by injection e127)
                                     obtain ⟨ce127, hce127, hMe127, hcc127⟩ := Kd.S_get HO_7.out [] x10_4 p127 (by first | exact q127 | exact of_decide_eq_true (by assumption) | (have e_ := (Kd.S_reads' HO_7.out).1; omega))
                                     obtain ⟨ve127_0, rfl, ge127_0⟩ := hMe127
                                     have hv127_0 := hcc127 0 _ rfl
                                     rw [Nat.add_zero, show ((Kd.slice 2 (Kd.int .i64))).sz = 1 from rfl, Nat.mul_one] at hv127_0
                                     replace hv127_0 := Option.some.inj (hv127_0.symm.trans hx127_0)
                                     rw [hv127_0] at ge127_0
                                     have HL127_0 := Aside0.mk (show Kd.R (Kd.int .i64) 2 _ _ _ _ (rd_L1 x7_2 x10_4) from ge127_0)
                                     clear hv127_0 ge127_0
                                     clear hcc127 hce127
                                     have HR127_0 := Aside0.mk hi127_0
                                     have HC127_0 := Aside0.mk hl127_0
                                     clear hi127_0 hl127_0
                                     replace p127 := eq_true p127
                                     replace q127 := eq_true q127
                                     have ea_ := Option.some.inj (hx118_0.symm.trans hx127_0)
                                     injection ea_ with ea_ en_ ec_
                                     subst ea_
                                     subst ec_
                                     clear en_
                                     have p128 : 0 ≤ (x12_5 : Int) := of_decide_eq_true (by assumption)
                                     have q128 : x12_5 < ((rd_L1 x7_2 x10_4).length : Int) := of_decide_eq_true (by assumption)
                                     obtain ⟨ad128, e128, hx128_0⟩ := Kd.at_int (by repeat (first | (with_reducible exact HR127_0.out) | (with_reducible refine Kd.C_alloc ?_ _) | (with_reducible refine Kd.C_drewN ?_ _) | (with_reducible refine Kd.C_drew ?_) | exact HR127_0.out)) x12_5 p128 q128
                                     cases e128
                                     replace p128 := eq_true p128
                                     replace q128 := eq_true q128
                                     have p67 : 0 ≤ ((ji57) : Int) := of_decide_eq_true (by assumption)
                                     have q67 : ((ji57) : Int) < ((x5_5.length : Int) : Int) := of_decide_eq_true (by assumption)
                                     obtain ⟨hx67_0, hf67_0⟩ := Kd.R_celln 0 HO_5.out ((ji57) : Int) p67 q67
                                     replace p67 := eq_true p67
                                     replace q67 := eq_true q67
                                     obtain ⟨hy70_, hz70_⟩ := Kd.R_celln 0 HO_5.out ((ji57) : Int) (of_decide_eq_true (by assumption)) (of_decide_eq_true (by assumption))
                                     have HP70 := Kd.R_putg HO_5.out ((ji57) : Int) (wrap64 ((rd x5_4 (ji41)) + (rd (rd_L1 x7_2 x10_4) x12_5)))
                                     try go_wp2_with (first | ((with_reducible refine gate_store (t := 2) (p := 142) rfl ?_); refine store_event (t := 2) (p := 142) (v := ?vo_w71) (w1 := (w68.setCell ⟨go24, ((ji57) : Int).toNat, none⟩ (.int .i64 (wrap64 ((rd x5_4 (ji41)) + (rd (rd_L1 x7_2 x10_4) x12_5)))))) ?hg ?ho ?hn ?hr ?_; (case ho => rfl); (case hg => rfl); (case hn => rfl); (case hr => first | (go_simp; done) | (go_simp; rfl)); intro w71 hw; have hg : w68.grownBy w71 (some go24) := (by rw [hw]; exact HP70.2); have hp_ : Kd.R (Kd.int .i64) 2 w71 w.heap.size (fun _ => True) (.slice (some ⟨go24, 0, none⟩) x5_5.length co15) y129 := (by rw [hw, Ny129.out]; exact HP70.1); clear HP70; have n0_ := Aside0.mk (hp_); have n1_ := Aside0.mk (Kd.S_after (v := (.slice (some ⟨go24, 0, none⟩) x5_5.length co15)) (v1 := (.slice (some ⟨go24, 0, none⟩) x5_5.length co15)) (ok := (fun _ => True)) (by (with_reducible repeat (first | apply Kd.S_alloc | apply Kd.S_drewN | apply Kd.S_drew)); exact Kd.S_mono HO_7.out (fun _ hk => ⟨trivial, hk⟩)) hg (.inl rfl)); have n2_ := Aside0.mk (blk_grown (g := gb101) (o := .cells #[.int .i64 a0_0, .int .i64 a0_1] 26 (0, 0)) (by (with_reducible repeat (first | refine blk_drewN ?_ _ | refine blk_drew ?_ | refine blk_alloc ?_ _)); exact BK101.out) hg (Kd.R_ne HO_5.out BK101.out (by decide))); have n3_ := Aside0.mk (Kd.R_after (v := (.slice (some ⟨go24, 0, none⟩) x5_5.length co15)) (v1 := (.slice (some ⟨go24, 0, none⟩) x5_5.length co15)) (ok := (fun k_ => some k_ ≠ (.slice (some ad118) x7_2.length co69 : Value).ownBlock)) (by exact Kd.R_mono HL118_0.out (fun _ hk => ⟨hk.2, hk.1⟩)) hg (.inl rfl)); have n4_ := Aside0.mk (Kd.R_after (v := (.slice (some ⟨go24, 0, none⟩) x5_5.length co15)) (v1 := (.slice (some ⟨go24, 0, none⟩) x5_5.length co15)) (ok := (fun k_ => some k_ ≠ (.slice (some ad118) x7_2.length co69 : Value).ownBlock)) (by exact Kd.R_mono HL124_0.out (fun _ hk => ⟨hk.2, hk.1⟩)) hg (.inl rfl)); have n5_ := Aside0.mk (Kd.R_after (v := (.slice (some ⟨go24, 0, none⟩) x5_5.length co15)) (v1 := (.slice (some ⟨go24, 0, none⟩) x5_5.length co15)) (ok := (fun k_ => some k_ ≠ (.slice (some ad118) x7_2.length co69 : Value).ownBlock)) (by exact Kd.R_mono HL127_0.out (fun _ hk => ⟨hk.2, hk.1⟩)) hg (.inl rfl)); have n6_ := Aside0.mk ((by rw [hw]; exact below_set (HB.out) GB24.out : Below w.heap.size w w71)); clear HO_5; clear HO_7; clear BK101; clear HL118_0; clear HL124_0; clear HL127_0; clear HB; have HO_5 := n0_; have HO_7 := n1_; have BK101 := n2_; have HL118_0 := n3_; have HL124_0 := n4_; have HL127_0 := n5_; have HB := n6_; clear n0_ n1_ n2_ n3_ n4_ n5_ n6_; clear hg hw hp_))
                                     (try simp only [← hl5_5])
                                     go_roundg k5
                                     case measure => have := HK1.out; have := HK2.out; have := HK3.out; have := HK4.out; have := HK5.out; omega
                                     case rel => exact ⟨(y129), (wrap64 (x12_5 + 1)), (by first | rfl | simp), H', ⟨by have := HK1.out; have := HK2.out; have := HK3.out; have := HK4.out; have := HK5.out; omega⟩, ⟨by (try simp only [hl5_1]); (try simp only [hl5_2]); (try simp only [hl5_3]); (try simp only [hl5_4]); (try simp only [hl5_5]); exact HO_5.out⟩, ⟨by (try simp only [hl5_1]); (try simp only [hl5_2]); (try simp only [hl5_3]); (try simp only [hl5_4]); (try simp only [hl5_5]); (with_reducible repeat (first | apply Kd.S_alloc | apply Kd.S_drewN | apply Kd.S_drew)); exact Kd.S_mono HO_7.out (fun _ hk => hk.2)⟩, ⟨by (try simp only [hl5_1]); (try simp only [hl5_2]); (try simp only [hl5_3]); (try simp only [hl5_4]); (try simp only [hl5_5]); (with_reducible repeat (first | refine blk_drewN ?_ _ | refine blk_drew ?_ | refine blk_alloc ?_ _)); exact BK101.out⟩, ⟨by repeat (first | (with_reducible first | exact HB.out | apply below_alloc | apply pw_below_drewN | apply below_drew1 | refine below_set ?_ GE101.out) | exact HB.out)⟩⟩
                                    ·
                                     rw [if_neg c66] at H
                                     have c66b0 : decide ((wrap64 ((rd x5_4 (ji41)) + (rd (rd_L1 x7_2 x10_4) x12_5))) < (rd x5_5 (ji57))) = false := decide_eq_false c66
                                     clear c66
                                     have H' := Aside0.mk H
                                     clear H
                                     try go_wp2
                                     have n0_ := Aside0.mk (Kd.R_drew HO_5.out)
                                     have n1_ := Aside0.mk (Kd.S_drew HO_7.out)
                                     have n2_ := Aside0.mk (blk_drew BK101.out)
                                     have n3_ := Aside0.mk (below_drew1 HB.out)
                                     clear HO_5
                                     clear HO_7
                                     clear BK101
                                     clear HB
                                     have HO_5 := n0_
                                     have HO_7 := n1_
                                     have BK101 := n2_
                                     have HB := n3_
                                     clear n0_ n1_ n2_ n3_
                                     obtain ⟨Ao73, co73, eo73⟩ := Kd.S_slice HO_7.out
                                     (first | subst eo73 | (injection eo73 with f1_ f2_ f3_; have f4_ := f1_.symm; have f5_ := f3_.symm; clear f1_ f2_ f3_; subst f4_; subst f5_))
                                     have p118 : 0 ≤ (x10_4 : Int) := of_decide_eq_true (by assumption)
                                     have q118 : x10_4 < (x7_2.length : Int) := of_decide_eq_true (by assumption)
                                     obtain ⟨ad118, A118_0, c118_0, e118, hx118_0, hl118_0, hi118_0⟩ := at_L1 (Kd.S_reads' HO_7.out).2.2 x10_4 p118 q118
                                     cases e118
                                     obtain ⟨ce118, hce118, hMe118, hcc118⟩ := Kd.S_get HO_7.out [] x10_4 p118 (by first | exact q118 | exact of_decide_eq_true (by assumption) | (have e_ := (Kd.S_reads' HO_7.out).1; omega))
                                     obtain ⟨ve118_0, rfl, ge118_0⟩ := hMe118
                                     have hv118_0 := hcc118 0 _ rfl
                                     rw [Nat.add_zero, show ((Kd.slice 2 (Kd.int .i64))).sz = 1 from rfl, Nat.mul_one] at hv118_0
                                     replace hv118_0 := Option.some.inj (hv118_0.symm.trans hx118_0)
                                     rw [hv118_0] at ge118_0
                                     have HL118_0 := Aside0.mk (show Kd.R (Kd.int .i64) 2 _ _ _ _ (rd_L1 x7_2 x10_4) from ge118_0)
                                     clear hv118_0 ge118_0
                                     clear hcc118 hce118
                                     have HR118_0 := Aside0.mk hi118_0
                                     have HC118_0 := Aside0.mk hl118_0
                                     clear hi118_0 hl118_0
                                     replace p118 := eq_true p118
                                     replace q118 := eq_true q118
                                     have p119 : 0 ≤ (x12_5 : Int) := of_decide_eq_true (by assumption)
                                     have q119 : x12_5 < ((rd_L1 x7_2 x10_4).length : Int) := of_decide_eq_true (by assumption)
                                     obtain ⟨ad119, e119, hx119_0⟩ := Kd.at_int (by repeat (first | (with_reducible exact HR118_0.out) | (with_reducible refine Kd.C_alloc ?_ _) | (with_reducible refine Kd.C_drewN ?_ _) | (with_reducible refine Kd.C_drew ?_) | exact HR118_0.out)) x12_5 p119 q119
                                     cases e119
                                     replace p119 := eq_true p119
                                     replace q119 := eq_true q119
                                     have p120 : 0 ≤ ((ji57) : Int) := of_decide_eq_true (by assumption)
                                     have q120 : (ji57) < (x5_5.length : Int) := of_decide_eq_true (by assumption)
                                     obtain ⟨ad120, e120, hx120_0⟩ := Kd.at_int (Kd.R_reads' HO_5.out).2.2 (ji57) p120 q120
                                     obtain rfl : (⟨go24, 0, none⟩ : Addr) = ad120 := (by injection e120)
                                     (first | simp only [add_plain] at hx120_0 | simp only [add_at] at hx120_0 | simp only [Addr.add, Nat.zero_add] at hx120_0 | skip)
                                     replace p120 := eq_true p120
                                     replace q120 := eq_true q120
                                     have p124 : 0 ≤ (x10_4 : Int) := of_decide_eq_true (by assumption)
                                     have q124 : x10_4 < (x7_2.length : Int) := of_decide_eq_true (by assumption)
                                     obtain ⟨ad124, A124_0, c124_0, e124, hx124_0, hl124_0, hi124_0⟩ := at_L1 (Kd.S_reads' HO_7.out).2.2 x10_4 p124 q124
                                     obtain rfl : ad118 = ad124 := (by injection e124)
                                     obtain ⟨ce124, hce124, hMe124, hcc124⟩ := Kd.S_get HO_7.out [] x10_4 p124 (by first | exact q124 | exact of_decide_eq_true (by assumption) | (have e_ := (Kd.S_reads' HO_7.out).1; omega))
                                     obtain ⟨ve124_0, rfl, ge124_0⟩ := hMe124
                                     have hv124_0 := hcc124 0 _ rfl
                                     rw [Nat.add_zero, show ((Kd.slice 2 (Kd.int .i64))).sz = 1 from rfl, Nat.mul_one] at hv124_0
                                     replace hv124_0 := Option.some.inj (hv124_0.symm.trans hx124_0)
                                     rw [hv124_0] at ge124_0
                                     have HL124_0 := Aside0.mk (show Kd.R (Kd.int .i64) 2 _ _ _ _ (rd_L1 x7_2 x10_4) from ge124_0)
                                     clear hv124_0 ge124_0
                                     clear hcc124 hce124
                                     have HR124_0 := Aside0.mk hi124_0
                                     have HC124_0 := Aside0.mk hl124_0
                                     clear hi124_0 hl124_0
                                     replace p124 := eq_true p124
                                     replace q124 := eq_true q124
                                     have ea_ := Option.some.inj (hx118_0.symm.trans hx124_0)
                                     injection ea_ with ea_ en_ ec_
                                     subst ea_
                                     subst ec_
                                     clear en_
                                     have p125 : 0 ≤ (x12_5 : Int) := of_decide_eq_true (by assumption)
                                     have q125 : x12_5 < ((rd_L1 x7_2 x10_4).length : Int) := of_decide_eq_true (by assumption)
                                     obtain ⟨ad119, e125, hx125_0⟩ := Kd.at_int (by repeat (first | (with_reducible exact HR124_0.out) | (with_reducible refine Kd.C_alloc ?_ _) | (with_reducible refine Kd.C_drewN ?_ _) | (with_reducible refine Kd.C_drew ?_) | exact HR124_0.out)) x12_5 p125 q125
                                     cases e125
                                     replace p125 := eq_true p125
                                     replace q125 := eq_true q125
                                     have p126 : 0 ≤ ((ji57) : Int) := of_decide_eq_true (by assumption)
                                     have q126 : (ji57) < (x5_5.length : Int) := of_decide_eq_true (by assumption)
                                     obtain ⟨ad126, e126, hx126_0⟩ := Kd.at_int (Kd.R_reads' HO_5.out).2.2 (ji57) p126 q126
                                     obtain rfl : (⟨go24, 0, none⟩ : Addr) = ad126 := (by injection e126)
                                     (first | simp only [add_plain] at hx126_0 | simp only [add_at] at hx126_0 | simp only [Addr.add, Nat.zero_add] at hx126_0 | skip)
                                     replace p126 := eq_true p126
                                     replace q126 := eq_true q126
                                     refine start_ (n := 43) (S := fun w' => w'.cell? (ad118.add (x10_4).toNat) = some (.slice (some ad119) (rd_L1 x7_2 x10_4).length c118_0) ∧ w'.cell? (ad119.add (x12_5).toNat) = some (.int .i64 (rd (rd_L1 x7_2 x10_4) x12_5)) ∧ w'.cell? ⟨go24, ((ji57)).toNat, none⟩ = some (.int .i64 (rd x5_5 (ji57))) ∧ w'.cell? (ad118.add (x10_4).toNat) = some (.slice (some ad119) (rd_L1 x7_2 x10_4).length c118_0) ∧ w'.cell? (ad119.add (x12_5).toNat) = some (.int .i64 (rd (rd_L1 x7_2 x10_4) x12_5)) ∧ w'.cell? ⟨go24, ((ji57)).toNat, none⟩ = some (.int .i64 (rd x5_5 (ji57)))) (ds := []) #[false,false,false,false,false,false,false,false,false,false,false,false,false,false,false,false,false,false,false,false,false,false,false,false,false,false,false,false,false,false,false,false,false,false,false,false,false,false,false,false,false,false,false] (by kernel_rfl) rfl rfl ⟨hx118_0, hx119_0, hx120_0, hx124_0, hx125_0, hx126_0⟩ (fun hHeld => ?_); refine with_tabW spec_ShortestRound.tab28 spec_ShortestRound.bits28 (fun HT_ HW_ => ?_)
                                     generalize wr.drew = w72 at HO_5 HO_7 BK101 HB HL118_0 HL124_0 HR118_0 HR124_0 hx118_0 hx119_0 hx120_0 hx124_0 hx125_0 hx126_0 hHeld ⊢
                                     refine pure_ (i := 0) (N := some 86) (v := ?_) (a' := ?_) #[true,false,false,false,false,false,false,false,false,false,false,false,false,false,false,false,false,false,false,false,false,false,false,false,false,false,false,false,false,false,false,false,false,false,false,false,false,false,false,false,false,false,false] rfl rfl (any_of HT_.out (by kernel_rfl)) (fun _ _ _ h => h) (Or.inl ⟨by rfl, ?_⟩) ?_ ?_
                                     rotate_left; (· intro w'; go_simp; with_reducible rfl); rotate_left; (· simp only [Act.put, q6d2_1, q6d2_2, q6d2_3, i64_w, i32_w]; rfl)
                                     refine pure_ (i := 1) (N := some 87) (v := ?_) (a' := ?_) #[true,true,false,false,false,false,false,false,false,false,false,false,false,false,false,false,false,false,false,false,false,false,false,false,false,false,false,false,false,false,false,false,false,false,false,false,false,false,false,false,false,false,false] rfl rfl (any_of HT_.out (by kernel_rfl)) (fun _ _ _ h => h) (Or.inl ⟨by rfl, ?_⟩) ?_ ?_
                                     rotate_left; (· intro w'; go_simp; with_reducible rfl); rotate_left; (· simp only [Act.put, q6d2_1, q6d2_2, q6d2_3, i64_w, i32_w]; rfl)
                                     refine pure_ (i := 2) (N := some 88) (v := ?_) (a' := ?_) #[true,true,true,false,false,false,false,false,false,false,false,false,false,false,false,false,false,false,false,false,false,false,false,false,false,false,false,false,false,false,false,false,false,false,false,false,false,false,false,false,false,false,false] rfl rfl (any_of HT_.out (by kernel_rfl)) (fun _ _ _ h => h) (Or.inl ⟨by rfl, ?_⟩) ?_ ?_
                                     rotate_left; (· intro w'; go_simp; with_reducible rfl); rotate_left; (· simp only [Act.put, q6d2_1, q6d2_2, q6d2_3, i64_w, i32_w]; rfl)
                                     refine pure_ (i := 3) (N := some 89) (v := ?_) (a' := ?_) #[true,true,true,true,false,false,false,false,false,false,false,false,false,false,false,false,false,false,false,false,false,false,false,false,false,false,false,false,false,false,false,false,false,false,false,false,false,false,false,false,false,false,false] rfl rfl (any_of HT_.out (by kernel_rfl)) (fun _ _ _ h => h) (Or.inl ⟨by rfl, ?_⟩) ?_ ?_
                                     rotate_left; (· intro w'; go_simp; with_reducible rfl); rotate_left; (· simp only [Act.put, q6d2_1, q6d2_2, q6d2_3, i64_w, i32_w]; rfl)
                                     refine pure_ (i := 4) (N := some 90) (v := ?_) (a' := ?_) #[true,true,true,true,true,false,false,false,false,false,false,false,false,false,false,false,false,false,false,false,false,false,false,false,false,false,false,false,false,false,false,false,false,false,false,false,false,false,false,false,false,false,false] rfl rfl (any_of HT_.out (by kernel_rfl)) (fun _ _ _ h => h) (Or.inl ⟨by rfl, ?_⟩) ?_ ?_
                                     rotate_left; (· intro w'; go_simp; with_reducible rfl); rotate_left; (· simp only [Act.put, q6d2_1, q6d2_2, q6d2_3, i64_w, i32_w]; rfl)
                                     refine pure_ (i := 5) (N := some 91) (v := ?_) (a' := ?_) #[true,true,true,true,true,true,false,false,false,false,false,false,false,false,false,false,false,false,false,false,false,false,false,false,false,false,false,false,false,false,false,false,false,false,false,false,false,false,false,false,false,false,false] rfl rfl (any_of HT_.out (by kernel_rfl)) (fun _ _ _ h => h) (Or.inl ⟨by rfl, ?_⟩) ?_ ?_
                                     rotate_left; (· intro w'; go_simp; with_reducible rfl); rotate_left; (· simp only [Act.put, q6d2_1, q6d2_2, q6d2_3, i64_w, i32_w]; rfl)
                                     refine pure_ (i := 6) (N := some 92) (v := ?_) (a' := ?_) #[true,true,true,true,true,true,true,false,false,false,false,false,false,false,false,false,false,false,false,false,false,false,false,false,false,false,false,false,false,false,false,false,false,false,false,false,false,false,false,false,false,false,false] rfl rfl (any_of HT_.out (by kernel_rfl)) (fun _ _ _ h => h) (Or.inl ⟨by rfl, ?_⟩) ?_ ?_
                                     rotate_left; (· intro w'; go_simp; with_reducible rfl); rotate_left; (· simp only [Act.put, q6d2_1, q6d2_2, q6d2_3, i64_w, i32_w]; rfl)
                                     refine pure_ (i := 7) (N := some 93) (v := ?_) (a' := ?_) #[true,true,true,true,true,true,true,true,false,false,false,false,false,false,false,false,false,false,false,false,false,false,false,false,false,false,false,false,false,false,false,false,false,false,false,false,false,false,false,false,false,false,false] rfl rfl (any_of HT_.out (by kernel_rfl)) (fun _ _ _ h => h) (Or.inl ⟨by rfl, ?_⟩) ?_ ?_
                                     rotate_left; (· intro w'; go_simp; with_reducible rfl); rotate_left; (· simp only [Act.put, q6d2_1, q6d2_2, q6d2_3, i64_w, i32_w]; rfl)
                                     refine pure_ (i := 8) (N := some 94) (v := ?_) (a' := ?_) #[true,true,true,true,true,true,true,true,true,false,false,false,false,false,false,false,false,false,false,false,false,false,false,false,false,false,false,false,false,false,false,false,false,false,false,false,false,false,false,false,false,false,false] rfl rfl (any_of HT_.out (by kernel_rfl)) (fun _ _ _ h => h) (Or.inl ⟨by rfl, ?_⟩) ?_ ?_
                                     rotate_left; (· intro w'; go_simp; with_reducible rfl); rotate_left; (· simp only [Act.put, q6d2_1, q6d2_2, q6d2_3, i64_w, i32_w]; rfl)
                                     refine pure_ (i := 9) (N := some 95) (v := ?_) (a' := ?_) #[true,true,true,true,true,true,true,true,true,true,false,false,false,false,false,false,false,false,false,false,false,false,false,false,false,false,false,false,false,false,false,false,false,false,false,false,false,false,false,false,false,false,false] rfl rfl (any_of HT_.out (by kernel_rfl)) (fun _ _ _ h => h) (Or.inl ⟨by rfl, ?_⟩) ?_ ?_
                                     rotate_left; (· intro w'; go_simp; with_reducible rfl); rotate_left; (· simp only [Act.put, q6d2_1, q6d2_2, q6d2_3, i64_w, i32_w]; rfl)
                                     refine pure_ (i := 11) (N := some 97) (v := ?_) (a' := ?_) #[true,true,true,true,true,true,true,true,true,true,false,true,false,false,false,false,false,false,false,false,false,false,false,false,false,false,false,false,false,false,false,false,false,false,false,false,false,false,false,false,false,false,false] rfl rfl (any_of HT_.out (by kernel_rfl)) (fun _ _ _ h => h) (Or.inl ⟨by rfl, ?_⟩) ?_ ?_
                                     rotate_left; (· intro w'; go_simp; with_reducible rfl); rotate_left; (· simp only [Act.put, q6d2_1, q6d2_2, q6d2_3, i64_w, i32_w]; rfl)
                                     refine take_ (i := 10) (N := some 96) (v := ?_) (a' := ?_) #[true,true,true,true,true,true,true,true,true,true,true,true,false,false,false,false,false,false,false,false,false,false,false,false,false,false,false,false,false,false,false,false,false,false,false,false,false,false,false,false,false,false,false] rfl rfl (take_ofW HT_.out HW_.out (by kernel_rfl)) (fun _ _ _ h => h) (Or.inl ⟨by rfl, ?_⟩) hHeld ?_ ?_
                                     rotate_left; (· rintro w' ⟨s0, s1, s2, s3, s4, s5⟩; go_simp; with_reducible rfl); rotate_left; (· simp only [Act.put, q6d2_1, q6d2_2, q6d2_3, i64_w, i32_w]; rfl)
                                     refine pure_ (i := 12) (N := some 98) (v := ?_) (a' := ?_) #[true,true,true,true,true,true,true,true,true,true,true,true,true,false,false,false,false,false,false,false,false,false,false,false,false,false,false,false,false,false,false,false,false,false,false,false,false,false,false,false,false,false,false] rfl rfl (any_of HT_.out (by kernel_rfl)) (fun _ _ _ h => h) (Or.inl ⟨by rfl, ?_⟩) ?_ ?_
                                     rotate_left; (· intro w'; go_simp; with_reducible rfl); rotate_left; (· simp only [Act.put, q6d2_1, q6d2_2, q6d2_3, i64_w, i32_w]; rfl)
                                     refine take_ (i := 13) (N := some 99) (v := ?_) (a' := ?_) #[true,true,true,true,true,true,true,true,true,true,true,true,true,true,false,false,false,false,false,false,false,false,false,false,false,false,false,false,false,false,false,false,false,false,false,false,false,false,false,false,false,false,false] rfl rfl (take_ofW HT_.out HW_.out (by kernel_rfl)) (fun _ _ _ h => h) (Or.inl ⟨by rfl, ?_⟩) hHeld ?_ ?_
                                     rotate_left; (· rintro w' ⟨s0, s1, s2, s3, s4, s5⟩; go_simp; with_reducible rfl); rotate_left; (· simp only [Act.put, q6d2_1, q6d2_2, q6d2_3, i64_w, i32_w]; rfl)
                                     refine pure_ (i := 14) (N := some 100) (v := ?_) (a' := ?_) #[true,true,true,true,true,true,true,true,true,true,true,true,true,true,true,false,false,false,false,false,false,false,false,false,false,false,false,false,false,false,false,false,false,false,false,false,false,false,false,false,false,false,false] rfl rfl (any_of HT_.out (by kernel_rfl)) (fun _ _ _ h => h) (Or.inl ⟨by rfl, ?_⟩) ?_ ?_
                                     rotate_left; (· intro w'; go_simp; with_reducible rfl); rotate_left; (· simp only [Act.put, q6d2_1, q6d2_2, q6d2_3, i64_w, i32_w]; rfl)
                                     refine pure_ (i := 15) (N := some 101) (v := ?_) (a' := ?_) #[true,true,true,true,true,true,true,true,true,true,true,true,true,true,true,true,false,false,false,false,false,false,false,false,false,false,false,false,false,false,false,false,false,false,false,false,false,false,false,false,false,false,false] rfl rfl (any_of HT_.out (by kernel_rfl)) (fun _ _ _ h => h) (Or.inl ⟨by rfl, ?_⟩) ?_ ?_
                                     rotate_left; (· intro w'; go_simp; with_reducible rfl); rotate_left; (· simp only [Act.put, q6d2_1, q6d2_2, q6d2_3, i64_w, i32_w]; rfl)
                                     refine pure_ (i := 16) (N := some 102) (v := ?_) (a' := ?_) #[true,true,true,true,true,true,true,true,true,true,true,true,true,true,true,true,true,false,false,false,false,false,false,false,false,false,false,false,false,false,false,false,false,false,false,false,false,false,false,false,false,false,false] rfl rfl (any_of HT_.out (by kernel_rfl)) (fun _ _ _ h => h) (Or.inl ⟨by rfl, ?_⟩) ?_ ?_
                                     rotate_left; (· intro w'; go_simp; with_reducible rfl); rotate_left; (· simp only [Act.put, q6d2_1, q6d2_2, q6d2_3, i64_w, i32_w]; rfl)
                                     refine pure_ (i := 17) (N := some 103) (v := ?_) (a' := ?_) #[true,true,true,true,true,true,true,true,true,true,true,true,true,true,true,true,true,true,false,false,false,false,false,false,false,false,false,false,false,false,false,false,false,false,false,false,false,false,false,false,false,false,false] rfl rfl (any_of HT_.out (by kernel_rfl)) (fun _ _ _ h => h) (Or.inl ⟨by rfl, ?_⟩) ?_ ?_
                                     rotate_left; (· intro w'; go_simp; with_reducible rfl); rotate_left; (· simp only [Act.put, q6d2_1, q6d2_2, q6d2_3, i64_w, i32_w]; rfl)
                                     refine pure_ (i := 18) (N := some 104) (v := ?_) (a' := ?_) #[true,true,true,true,true,true,true,true,true,true,true,true,true,true,true,true,true,true,true,false,false,false,false,false,false,false,false,false,false,false,false,false,false,false,false,false,false,false,false,false,false,false,false] rfl rfl (any_of HT_.out (by kernel_rfl)) (fun _ _ _ h => h) (Or.inl ⟨by rfl, ?_⟩) ?_ ?_
                                     rotate_left; (· intro w'; go_simp; with_reducible rfl); rotate_left; (· simp only [Act.put, q6d2_1, q6d2_2, q6d2_3, i64_w, i32_w]; rfl)
                                     refine pure_ (i := 19) (N := some 105) (v := ?_) (a' := ?_) #[true,true,true,true,true,true,true,true,true,true,true,true,true,true,true,true,true,true,true,true,false,false,false,false,false,false,false,false,false,false,false,false,false,false,false,false,false,false,false,false,false,false,false] rfl rfl (any_of HT_.out (by kernel_rfl)) (fun _ _ _ h => h) (Or.inl ⟨by rfl, ?_⟩) ?_ ?_
                                     rotate_left; (· intro w'; go_simp; with_reducible rfl); rotate_left; (· simp only [Act.put, q6d2_1, q6d2_2, q6d2_3, i64_w, i32_w]; rfl)
                                     refine pure_ (i := 20) (N := some 106) (v := ?_) (a' := ?_) #[true,true,true,true,true,true,true,true,true,true,true,true,true,true,true,true,true,true,true,true,true,false,false,false,false,false,false,false,false,false,false,false,false,false,false,false,false,false,false,false,false,false,false] rfl rfl (any_of HT_.out (by kernel_rfl)) (fun _ _ _ h => h) (Or.inl ⟨by rfl, ?_⟩) ?_ ?_
                                     rotate_left; (· intro w'; go_simp; with_reducible rfl); rotate_left; (· simp only [Act.put, q6d2_1, q6d2_2, q6d2_3, i64_w, i32_w]; rfl)
                                     refine pure_ (i := 21) (N := some 107) (v := ?_) (a' := ?_) #[true,true,true,true,true,true,true,true,true,true,true,true,true,true,true,true,true,true,true,true,true,true,false,false,false,false,false,false,false,false,false,false,false,false,false,false,false,false,false,false,false,false,false] rfl rfl (any_of HT_.out (by kernel_rfl)) (fun _ _ _ h => h) (Or.inl ⟨by rfl, ?_⟩) ?_ ?_
                                     rotate_left; (· intro w'; go_simp; with_reducible rfl); rotate_left; (· simp only [Act.put, q6d2_1, q6d2_2, q6d2_3, i64_w, i32_w]; rfl)
                                     refine take_ (i := 22) (N := some 108) (v := ?_) (a' := ?_) #[true,true,true,true,true,true,true,true,true,true,true,true,true,true,true,true,true,true,true,true,true,true,true,false,false,false,false,false,false,false,false,false,false,false,false,false,false,false,false,false,false,false,false] rfl rfl (take_ofW HT_.out HW_.out (by kernel_rfl)) (fun _ _ _ h => h) (Or.inl ⟨by rfl, ?_⟩) hHeld ?_ ?_
                                     rotate_left; (· rintro w' ⟨s0, s1, s2, s3, s4, s5⟩; go_simp; with_reducible rfl); rotate_left; (· simp only [Act.put, q6d2_1, q6d2_2, q6d2_3, i64_w, i32_w]; rfl)
                                     refine pure_ (i := 23) (N := some 109) (v := ?_) (a' := ?_) #[true,true,true,true,true,true,true,true,true,true,true,true,true,true,true,true,true,true,true,true,true,true,true,true,false,false,false,false,false,false,false,false,false,false,false,false,false,false,false,false,false,false,false] rfl rfl (any_of HT_.out (by kernel_rfl)) (fun _ _ _ h => h) (Or.inl ⟨by rfl, ?_⟩) ?_ ?_
                                     rotate_left; (· intro w'; go_simp; with_reducible rfl); rotate_left; (· simp only [Act.put, q6d2_1, q6d2_2, q6d2_3, i64_w, i32_w]; rfl)
                                     refine pure_ (i := 24) (N := some 110) (v := ?_) (a' := ?_) #[true,true,true,true,true,true,true,true,true,true,true,true,true,true,true,true,true,true,true,true,true,true,true,true,true,false,false,false,false,false,false,false,false,false,false,false,false,false,false,false,false,false,false] rfl rfl (any_of HT_.out (by kernel_rfl)) (fun _ _ _ h => h) (Or.inl ⟨by rfl, ?_⟩) ?_ ?_
                                     rotate_left; (· intro w'; go_simp; with_reducible rfl); rotate_left; (· simp only [Act.put, q6d2_1, q6d2_2, q6d2_3, i64_w, i32_w]; rfl)
                                     refine pure_ (i := 25) (N := some 111) (v := ?_) (a' := ?_) #[true,true,true,true,true,true,true,true,true,true,true,true,true,true,true,true,true,true,true,true,true,true,true,true,true,true,false,false,false,false,false,false,false,false,false,false,false,false,false,false,false,false,false] rfl rfl (any_of HT_.out (by kernel_rfl)) (fun _ _ _ h => h) (Or.inl ⟨by rfl, ?_⟩) ?_ ?_
                                     rotate_left; (· intro w'; go_simp; with_reducible rfl); rotate_left; (· simp only [Act.put, q6d2_1, q6d2_2, q6d2_3, i64_w, i32_w]; rfl)
                                     refine pure_ (i := 26) (N := some 112) (v := ?_) (a' := ?_) #[true,true,true,true,true,true,true,true,true,true,true,true,true,true,true,true,true,true,true,true,true,true,true,true,true,true,true,false,false,false,false,false,false,false,false,false,false,false,false,false,false,false,false] rfl rfl (any_of HT_.out (by kernel_rfl)) (fun _ _ _ h => h) (Or.inl ⟨by rfl, ?_⟩) ?_ ?_
                                     rotate_left; (· intro w'; go_simp; with_reducible rfl); rotate_left; (· simp only [Act.put, q6d2_1, q6d2_2, q6d2_3, i64_w, i32_w]; rfl)
                                     refine pure_ (i := 27) (N := some 113) (v := ?_) (a' := ?_) #[true,true,true,true,true,true,true,true,true,true,true,true,true,true,true,true,true,true,true,true,true,true,true,true,true,true,true,true,false,false,false,false,false,false,false,false,false,false,false,false,false,false,false] rfl rfl (any_of HT_.out (by kernel_rfl)) (fun _ _ _ h => h) (Or.inl ⟨by rfl, ?_⟩) ?_ ?_
                                     rotate_left; (· intro w'; go_simp; with_reducible rfl); rotate_left; (· simp only [Act.put, q6d2_1, q6d2_2, q6d2_3, i64_w, i32_w]; rfl)
                                     refine pure_ (i := 28) (N := some 114) (v := ?_) (a' := ?_) #[true,true,true,true,true,true,true,true,true,true,true,true,true,true,true,true,true,true,true,true,true,true,true,true,true,true,true,true,true,false,false,false,false,false,false,false,false,false,false,false,false,false,false] rfl rfl (any_of HT_.out (by kernel_rfl)) (fun _ _ _ h => h) (Or.inl ⟨by rfl, ?_⟩) ?_ ?_
                                     rotate_left; (· intro w'; go_simp; with_reducible rfl); rotate_left; (· simp only [Act.put, q6d2_1, q6d2_2, q6d2_3, i64_w, i32_w]; rfl)
                                     refine pure_ (i := 30) (N := some 116) (v := ?_) (a' := ?_) #[true,true,true,true,true,true,true,true,true,true,true,true,true,true,true,true,true,true,true,true,true,true,true,true,true,true,true,true,true,false,true,false,false,false,false,false,false,false,false,false,false,false,false] rfl rfl (any_of HT_.out (by kernel_rfl)) (fun _ _ _ h => h) (Or.inl ⟨by rfl, ?_⟩) ?_ ?_
                                     rotate_left; (· intro w'; go_simp; with_reducible rfl); rotate_left; (· simp only [Act.put, q6d2_1, q6d2_2, q6d2_3, i64_w, i32_w]; rfl)
                                     refine pure_ (i := 34) (N := some 120) (v := ?_) (a' := ?_) #[true,true,true,true,true,true,true,true,true,true,true,true,true,true,true,true,true,true,true,true,true,true,true,true,true,true,true,true,true,false,true,false,false,false,true,false,false,false,false,false,false,false,false] rfl rfl (any_of HT_.out (by kernel_rfl)) (fun _ _ _ h => h) (Or.inl ⟨by rfl, ?_⟩) ?_ ?_
                                     rotate_left; (· intro w'; go_simp; with_reducible rfl); rotate_left; (· simp only [Act.put, q6d2_1, q6d2_2, q6d2_3, i64_w, i32_w]; rfl)
                                     refine pure_ (i := 35) (N := some 121) (v := ?_) (a' := ?_) #[true,true,true,true,true,true,true,true,true,true,true,true,true,true,true,true,true,true,true,true,true,true,true,true,true,true,true,true,true,false,true,false,false,false,true,true,false,false,false,false,false,false,false] rfl rfl (any_of HT_.out (by kernel_rfl)) (fun _ _ _ h => h) (Or.inl ⟨by rfl, ?_⟩) ?_ ?_
                                     rotate_left; (· intro w'; go_simp; with_reducible rfl); rotate_left; (· simp only [Act.put, q6d2_1, q6d2_2, q6d2_3, i64_w, i32_w]; rfl)
                                     refine pure_ (i := 36) (N := some 122) (v := ?_) (a' := ?_) #[true,true,true,true,true,true,true,true,true,true,true,true,true,true,true,true,true,true,true,true,true,true,true,true,true,true,true,true,true,false,true,false,false,false,true,true,true,false,false,false,false,false,false] rfl rfl (any_of HT_.out (by kernel_rfl)) (fun _ _ _ h => h) (Or.inl ⟨by rfl, ?_⟩) ?_ ?_
                                     rotate_left; (· intro w'; go_simp; with_reducible rfl); rotate_left; (· simp only [Act.put, q6d2_1, q6d2_2, q6d2_3, i64_w, i32_w]; rfl)
                                     refine pure_ (i := 37) (N := some 123) (v := ?_) (a' := ?_) #[true,true,true,true,true,true,true,true,true,true,true,true,true,true,true,true,true,true,true,true,true,true,true,true,true,true,true,true,true,false,true,false,false,false,true,true,true,true,false,false,false,false,false] rfl rfl (any_of HT_.out (by kernel_rfl)) (fun _ _ _ h => h) (Or.inl ⟨by rfl, ?_⟩) ?_ ?_
                                     rotate_left; (· intro w'; go_simp; with_reducible rfl); rotate_left; (· simp only [Act.put, q6d2_1, q6d2_2, q6d2_3, i64_w, i32_w]; rfl)
                                     refine pure_ (i := 38) (N := some 124) (v := ?_) (a' := ?_) #[true,true,true,true,true,true,true,true,true,true,true,true,true,true,true,true,true,true,true,true,true,true,true,true,true,true,true,true,true,false,true,false,false,false,true,true,true,true,true,false,false,false,false] rfl rfl (any_of HT_.out (by kernel_rfl)) (fun _ _ _ h => h) (Or.inl ⟨by rfl, ?_⟩) ?_ ?_
                                     rotate_left; (· intro w'; go_simp; with_reducible rfl); rotate_left; (· simp only [Act.put, q6d2_1, q6d2_2, q6d2_3, i64_w, i32_w]; rfl)
                                     refine take_ (i := 29) (N := some 115) (v := ?_) (a' := ?_) #[true,true,true,true,true,true,true,true,true,true,true,true,true,true,true,true,true,true,true,true,true,true,true,true,true,true,true,true,true,true,true,false,false,false,true,true,true,true,true,false,false,false,false] rfl rfl (take_ofW HT_.out HW_.out (by kernel_rfl)) (fun _ _ _ h => h) (Or.inl ⟨by rfl, ?_⟩) hHeld ?_ ?_
                                     rotate_left; (· rintro w' ⟨s0, s1, s2, s3, s4, s5⟩; go_simp; with_reducible rfl); rotate_left; (· simp only [Act.put, q6d2_1, q6d2_2, q6d2_3, i64_w, i32_w]; rfl)
                                     refine pure_ (i := 31) (N := some 117) (v := ?_) (a' := ?_) #[true,true,true,true,true,true,true,true,true,true,true,true,true,true,true,true,true,true,true,true,true,true,true,true,true,true,true,true,true,true,true,true,false,false,true,true,true,true,true,false,false,false,false] rfl rfl (any_of HT_.out (by kernel_rfl)) (fun _ _ _ h => h) (Or.inl ⟨by rfl, ?_⟩) ?_ ?_
                                     rotate_left; (· intro w'; go_simp; with_reducible rfl); rotate_left; (· simp only [Act.put, q6d2_1, q6d2_2, q6d2_3, i64_w, i32_w]; rfl)
                                     refine take_ (i := 32) (N := some 118) (v := ?_) (a' := ?_) #[true,true,true,true,true,true,true,true,true,true,true,true,true,true,true,true,true,true,true,true,true,true,true,true,true,true,true,true,true,true,true,true,true,false,true,true,true,true,true,false,false,false,false] rfl rfl (take_ofW HT_.out HW_.out (by kernel_rfl)) (fun _ _ _ h => h) (Or.inl ⟨by rfl, ?_⟩) hHeld ?_ ?_
                                     rotate_left; (· rintro w' ⟨s0, s1, s2, s3, s4, s5⟩; go_simp; with_reducible rfl); rotate_left; (· simp only [Act.put, q6d2_1, q6d2_2, q6d2_3, i64_w, i32_w]; rfl)
                                     refine pure_ (i := 33) (N := some 119) (v := ?_) (a' := ?_) #[true,true,true,true,true,true,true,true,true,true,true,true,true,true,true,true,true,true,true,true,true,true,true,true,true,true,true,true,true,true,true,true,true,true,true,true,true,true,true,false,false,false,false] rfl rfl (any_of HT_.out (by kernel_rfl)) (fun _ _ _ h => h) (Or.inl ⟨by rfl, ?_⟩) ?_ ?_
                                     rotate_left; (· intro w'; go_simp; with_reducible rfl); rotate_left; (· simp only [Act.put, q6d2_1, q6d2_2, q6d2_3, i64_w, i32_w]; rfl)
                                     refine take_ (i := 39) (N := some 125) (v := ?_) (a' := ?_) #[true,true,true,true,true,true,true,true,true,true,true,true,true,true,true,true,true,true,true,true,true,true,true,true,true,true,true,true,true,true,true,true,true,true,true,true,true,true,true,true,false,false,false] rfl rfl (take_ofW HT_.out HW_.out (by kernel_rfl)) (fun _ _ _ h => h) (Or.inl ⟨by rfl, ?_⟩) hHeld ?_ ?_
                                     rotate_left; (· rintro w' ⟨s0, s1, s2, s3, s4, s5⟩; go_simp; with_reducible rfl); rotate_left; (· simp only [Act.put, q6d2_1, q6d2_2, q6d2_3, i64_w, i32_w]; rfl)
                                     refine pure_ (i := 40) (N := some 126) (v := ?_) (a' := ?_) #[true,true,true,true,true,true,true,true,true,true,true,true,true,true,true,true,true,true,true,true,true,true,true,true,true,true,true,true,true,true,true,true,true,true,true,true,true,true,true,true,true,false,false] rfl rfl (any_of HT_.out (by kernel_rfl)) (fun _ _ _ h => h) (Or.inl ⟨by rfl, ?_⟩) ?_ ?_
                                     rotate_left; (· intro w'; go_simp; with_reducible rfl); rotate_left; (· simp only [Act.put, q6d2_1, q6d2_2, q6d2_3, i64_w, i32_w]; rfl)
                                     refine pure_ (i := 41) (N := some 127) (v := ?_) (a' := ?_) #[true,true,true,true,true,true,true,true,true,true,true,true,true,true,true,true,true,true,true,true,true,true,true,true,true,true,true,true,true,true,true,true,true,true,true,true,true,true,true,true,true,true,false] rfl rfl (any_of HT_.out (by kernel_rfl)) (fun _ _ _ h => h) (Or.inl ⟨by rfl, ?_⟩) ?_ ?_
                                     rotate_left; (· intro w'; go_simp; with_reducible rfl); rotate_left; (· simp only [Act.put, q6d2_1, q6d2_2, q6d2_3, i64_w, i32_w]; rfl)
                                     refine pure_ (i := 42) (N := some 128) (v := ?_) (a' := ?_) #[true,true,true,true,true,true,true,true,true,true,true,true,true,true,true,true,true,true,true,true,true,true,true,true,true,true,true,true,true,true,true,true,true,true,true,true,true,true,true,true,true,true,true] rfl rfl (any_of HT_.out (by kernel_rfl)) (fun _ _ _ h => h) (Or.inl ⟨by rfl, ?_⟩) ?_ ?_
                                     rotate_left; (· intro w'; go_simp; with_reducible rfl); rotate_left; (· simp only [Act.put, q6d2_1, q6d2_2, q6d2_3, i64_w, i32_w]; rfl)
                                     refine done_ (done_of HT_.out (by kernel_rfl)) ?_
                                     try go_wp2
                                     (try simp only [← hl5_5])
                                     go_roundg k5
                                     case measure => have := HK1.out; have := HK2.out; have := HK3.out; have := HK4.out; have := HK5.out; omega
                                     case rel => exact ⟨(x5_5), (wrap64 (x12_5 + 1)), (by first | rfl | simp), H', ⟨by have := HK1.out; have := HK2.out; have := HK3.out; have := HK4.out; have := HK5.out; omega⟩, ⟨by (try simp only [hl5_1]); (try simp only [hl5_2]); (try simp only [hl5_3]); (try simp only [hl5_4]); (try simp only [hl5_5]); exact HO_5.out⟩, ⟨by (try simp only [hl5_1]); (try simp only [hl5_2]); (try simp only [hl5_3]); (try simp only [hl5_4]); (try simp only [hl5_5]); (with_reducible repeat (first | apply Kd.S_alloc | apply Kd.S_drewN | apply Kd.S_drew)); exact HO_7.out⟩, ⟨by (try simp only [hl5_1]); (try simp only [hl5_2]); (try simp only [hl5_3]); (try simp only [hl5_4]); (try simp only [hl5_5]); (with_reducible repeat (first | refine blk_drewN ?_ _ | refine blk_drew ?_ | refine blk_alloc ?_ _)); exact BK101.out⟩, ⟨by repeat (first | (with_reducible first | exact HB.out | apply below_alloc | apply pw_below_drewN | apply below_drew1 | refine below_set ?_ GE101.out) | exact HB.out)⟩⟩
                                  ·
                                   rw [if_neg c59] at H
                                   exact absurd H (by simp)
                                 ·
                                  rw [if_neg c58] at H
                                  exact absurd H (by simp)
                                ·
                                 rw [if_neg c56] at H
                                 have c56b0 : decide (0 ≤ (rd (rd_L1 x7_2 x10_4) x12_5)) = false := decide_eq_false c56
                                 clear c56
                                 have H' := Aside0.mk H
                                 clear H
                                 try go_wp2
                                 have n0_ := Aside0.mk (Kd.R_drew HO_5.out)
                                 have n1_ := Aside0.mk (Kd.S_drew HO_7.out)
                                 have n2_ := Aside0.mk (blk_drew BK101.out)
                                 have n3_ := Aside0.mk (below_drew1 HB.out)
                                 clear HO_5
                                 clear HO_7
                                 clear BK101
                                 clear HB
                                 have HO_5 := n0_
                                 have HO_7 := n1_
                                 have BK101 := n2_
                                 have HB := n3_
                                 clear n0_ n1_ n2_ n3_
                                 obtain ⟨Ao75, co75, eo75⟩ := Kd.S_slice HO_7.out
                                 (first | subst eo75 | (injection eo75 with f1_ f2_ f3_; have f4_ := f1_.symm; have f5_ := f3_.symm; clear f1_ f2_ f3_; subst f4_; subst f5_))
                                 have p118 : 0 ≤ (x10_4 : Int) := of_decide_eq_true (by assumption)
                                 have q118 : x10_4 < (x7_2.length : Int) := of_decide_eq_true (by assumption)
                                 obtain ⟨ad118, A118_0, c118_0, e118, hx118_0, hl118_0, hi118_0⟩ := at_L1 (Kd.S_reads' HO_7.out).2.2 x10_4 p118 q118
                                 cases e118
                                 obtain ⟨ce118, hce118, hMe118, hcc118⟩ := Kd.S_get HO_7.out [] x10_4 p118 (by first | exact q118 | exact of_decide_eq_true (by assumption) | (have e_ := (Kd.S_reads' HO_7.out).1; omega))
                                 obtain ⟨ve118_0, rfl, ge118_0⟩ := hMe118
                                 have hv118_0 := hcc118 0 _ rfl
                                 rw [Nat.add_zero, show ((Kd.slice 2 (Kd.int .i64))).sz = 1 from rfl, Nat.mul_one] at hv118_0
                                 replace hv118_0 := Option.some.inj (hv118_0.symm.trans hx118_0)
                                 rw [hv118_0] at ge118_0
                                 have HL118_0 := Aside0.mk (show Kd.R (Kd.int .i64) 2 _ _ _ _ (rd_L1 x7_2 x10_4) from ge118_0)
                                 clear hv118_0 ge118_0
                                 clear hcc118 hce118
                                 have HR118_0 := Aside0.mk hi118_0
                                 have HC118_0 := Aside0.mk hl118_0
                                 clear hi118_0 hl118_0
                                 replace p118 := eq_true p118
                                 replace q118 := eq_true q118
                                 have p119 : 0 ≤ (x12_5 : Int) := of_decide_eq_true (by assumption)
                                 have q119 : x12_5 < ((rd_L1 x7_2 x10_4).length : Int) := of_decide_eq_true (by assumption)
                                 obtain ⟨ad119, e119, hx119_0⟩ := Kd.at_int (by repeat (first | (with_reducible exact HR118_0.out) | (with_reducible refine Kd.C_alloc ?_ _) | (with_reducible refine Kd.C_drewN ?_ _) | (with_reducible refine Kd.C_drew ?_) | exact HR118_0.out)) x12_5 p119 q119
                                 cases e119
                                 replace p119 := eq_true p119
                                 replace q119 := eq_true q119
                                 refine start_ (n := 43) (S := fun w' => w'.cell? (ad118.add (x10_4).toNat) = some (.slice (some ad119) (rd_L1 x7_2 x10_4).length c118_0) ∧ w'.cell? (ad119.add (x12_5).toNat) = some (.int .i64 (rd (rd_L1 x7_2 x10_4) x12_5))) (ds := []) #[false,false,false,false,false,false,false,false,false,false,false,false,false,false,false,false,false,false,false,false,false,false,false,false,false,false,false,false,false,false,false,false,false,false,false,false,false,false,false,false,false,false,false] (by kernel_rfl) rfl rfl ⟨hx118_0, hx119_0⟩ (fun hHeld => ?_); refine with_tabW spec_ShortestRound.tab28 spec_ShortestRound.bits28 (fun HT_ HW_ => ?_)
                                 generalize wr.drew = w74 at HO_5 HO_7 BK101 HB HL118_0 HR118_0 hx118_0 hx119_0 hHeld ⊢
                                 refine pure_ (i := 0) (N := some 86) (v := ?_) (a' := ?_) #[true,false,false,false,false,false,false,false,false,false,false,false,false,false,false,false,false,false,false,false,false,false,false,false,false,false,false,false,false,false,false,false,false,false,false,false,false,false,false,false,false,false,false] rfl rfl (any_of HT_.out (by kernel_rfl)) (fun _ _ _ h => h) (Or.inl ⟨by rfl, ?_⟩) ?_ ?_
                                 rotate_left; (· intro w'; go_simp; with_reducible rfl); rotate_left; (· simp only [Act.put, q6d2_1, q6d2_2, q6d2_3, i64_w, i32_w]; rfl)
                                 refine pure_ (i := 1) (N := some 87) (v := ?_) (a' := ?_) #[true,true,false,false,false,false,false,false,false,false,false,false,false,false,false,false,false,false,false,false,false,false,false,false,false,false,false,false,false,false,false,false,false,false,false,false,false,false,false,false,false,false,false] rfl rfl (any_of HT_.out (by kernel_rfl)) (fun _ _ _ h => h) (Or.inl ⟨by rfl, ?_⟩) ?_ ?_
                                 rotate_left; (· intro w'; go_simp; with_reducible rfl); rotate_left; (· simp only [Act.put, q6d2_1, q6d2_2, q6d2_3, i64_w, i32_w]; rfl)
                                 refine pure_ (i := 2) (N := some 88) (v := ?_) (a' := ?_) #[true,true,true,false,false,false,false,false,false,false,false,false,false,false,false,false,false,false,false,false,false,false,false,false,false,false,false,false,false,false,false,false,false,false,false,false,false,false,false,false,false,false,false] rfl rfl (any_of HT_.out (by kernel_rfl)) (fun _ _ _ h => h) (Or.inl ⟨by rfl, ?_⟩) ?_ ?_
                                 rotate_left; (· intro w'; go_simp; with_reducible rfl); rotate_left; (· simp only [Act.put, q6d2_1, q6d2_2, q6d2_3, i64_w, i32_w]; rfl)
                                 refine pure_ (i := 3) (N := some 89) (v := ?_) (a' := ?_) #[true,true,true,true,false,false,false,false,false,false,false,false,false,false,false,false,false,false,false,false,false,false,false,false,false,false,false,false,false,false,false,false,false,false,false,false,false,false,false,false,false,false,false] rfl rfl (any_of HT_.out (by kernel_rfl)) (fun _ _ _ h => h) (Or.inl ⟨by rfl, ?_⟩) ?_ ?_
                                 rotate_left; (· intro w'; go_simp; with_reducible rfl); rotate_left; (· simp only [Act.put, q6d2_1, q6d2_2, q6d2_3, i64_w, i32_w]; rfl)
                                 refine pure_ (i := 4) (N := some 90) (v := ?_) (a' := ?_) #[true,true,true,true,true,false,false,false,false,false,false,false,false,false,false,false,false,false,false,false,false,false,false,false,false,false,false,false,false,false,false,false,false,false,false,false,false,false,false,false,false,false,false] rfl rfl (any_of HT_.out (by kernel_rfl)) (fun _ _ _ h => h) (Or.inl ⟨by rfl, ?_⟩) ?_ ?_
                                 rotate_left; (· intro w'; go_simp; with_reducible rfl); rotate_left; (· simp only [Act.put, q6d2_1, q6d2_2, q6d2_3, i64_w, i32_w]; rfl)
                                 refine pure_ (i := 5) (N := some 91) (v := ?_) (a' := ?_) #[true,true,true,true,true,true,false,false,false,false,false,false,false,false,false,false,false,false,false,false,false,false,false,false,false,false,false,false,false,false,false,false,false,false,false,false,false,false,false,false,false,false,false] rfl rfl (any_of HT_.out (by kernel_rfl)) (fun _ _ _ h => h) (Or.inl ⟨by rfl, ?_⟩) ?_ ?_
                                 rotate_left; (· intro w'; go_simp; with_reducible rfl); rotate_left; (· simp only [Act.put, q6d2_1, q6d2_2, q6d2_3, i64_w, i32_w]; rfl)
                                 refine pure_ (i := 6) (N := some 92) (v := ?_) (a' := ?_) #[true,true,true,true,true,true,true,false,false,false,false,false,false,false,false,false,false,false,false,false,false,false,false,false,false,false,false,false,false,false,false,false,false,false,false,false,false,false,false,false,false,false,false] rfl rfl (any_of HT_.out (by kernel_rfl)) (fun _ _ _ h => h) (Or.inl ⟨by rfl, ?_⟩) ?_ ?_
                                 rotate_left; (· intro w'; go_simp; with_reducible rfl); rotate_left; (· simp only [Act.put, q6d2_1, q6d2_2, q6d2_3, i64_w, i32_w]; rfl)
                                 refine pure_ (i := 7) (N := some 93) (v := ?_) (a' := ?_) #[true,true,true,true,true,true,true,true,false,false,false,false,false,false,false,false,false,false,false,false,false,false,false,false,false,false,false,false,false,false,false,false,false,false,false,false,false,false,false,false,false,false,false] rfl rfl (any_of HT_.out (by kernel_rfl)) (fun _ _ _ h => h) (Or.inl ⟨by rfl, ?_⟩) ?_ ?_
                                 rotate_left; (· intro w'; go_simp; with_reducible rfl); rotate_left; (· simp only [Act.put, q6d2_1, q6d2_2, q6d2_3, i64_w, i32_w]; rfl)
                                 refine pure_ (i := 8) (N := some 94) (v := ?_) (a' := ?_) #[true,true,true,true,true,true,true,true,true,false,false,false,false,false,false,false,false,false,false,false,false,false,false,false,false,false,false,false,false,false,false,false,false,false,false,false,false,false,false,false,false,false,false] rfl rfl (any_of HT_.out (by kernel_rfl)) (fun _ _ _ h => h) (Or.inl ⟨by rfl, ?_⟩) ?_ ?_
                                 rotate_left; (· intro w'; go_simp; with_reducible rfl); rotate_left; (· simp only [Act.put, q6d2_1, q6d2_2, q6d2_3, i64_w, i32_w]; rfl)
                                 refine pure_ (i := 9) (N := some 95) (v := ?_) (a' := ?_) #[true,true,true,true,true,true,true,true,true,true,false,false,false,false,false,false,false,false,false,false,false,false,false,false,false,false,false,false,false,false,false,false,false,false,false,false,false,false,false,false,false,false,false] rfl rfl (any_of HT_.out (by kernel_rfl)) (fun _ _ _ h => h) (Or.inl ⟨by rfl, ?_⟩) ?_ ?_
                                 rotate_left; (· intro w'; go_simp; with_reducible rfl); rotate_left; (· simp only [Act.put, q6d2_1, q6d2_2, q6d2_3, i64_w, i32_w]; rfl)
                                 refine pure_ (i := 11) (N := some 97) (v := ?_) (a' := ?_) #[true,true,true,true,true,true,true,true,true,true,false,true,false,false,false,false,false,false,false,false,false,false,false,false,false,false,false,false,false,false,false,false,false,false,false,false,false,false,false,false,false,false,false] rfl rfl (any_of HT_.out (by kernel_rfl)) (fun _ _ _ h => h) (Or.inl ⟨by rfl, ?_⟩) ?_ ?_
                                 rotate_left; (· intro w'; go_simp; with_reducible rfl); rotate_left; (· simp only [Act.put, q6d2_1, q6d2_2, q6d2_3, i64_w, i32_w]; rfl)
                                 refine take_ (i := 10) (N := some 96) (v := ?_) (a' := ?_) #[true,true,true,true,true,true,true,true,true,true,true,true,false,false,false,false,false,false,false,false,false,false,false,false,false,false,false,false,false,false,false,false,false,false,false,false,false,false,false,false,false,false,false] rfl rfl (take_ofW HT_.out HW_.out (by kernel_rfl)) (fun _ _ _ h => h) (Or.inl ⟨by rfl, ?_⟩) hHeld ?_ ?_
                                 rotate_left; (· rintro w' ⟨s0, s1⟩; go_simp; with_reducible rfl); rotate_left; (· simp only [Act.put, q6d2_1, q6d2_2, q6d2_3, i64_w, i32_w]; rfl)
                                 refine pure_ (i := 12) (N := some 98) (v := ?_) (a' := ?_) #[true,true,true,true,true,true,true,true,true,true,true,true,true,false,false,false,false,false,false,false,false,false,false,false,false,false,false,false,false,false,false,false,false,false,false,false,false,false,false,false,false,false,false] rfl rfl (any_of HT_.out (by kernel_rfl)) (fun _ _ _ h => h) (Or.inl ⟨by rfl, ?_⟩) ?_ ?_
                                 rotate_left; (· intro w'; go_simp; with_reducible rfl); rotate_left; (· simp only [Act.put, q6d2_1, q6d2_2, q6d2_3, i64_w, i32_w]; rfl)
                                 refine take_ (i := 13) (N := some 99) (v := ?_) (a' := ?_) #[true,true,true,true,true,true,true,true,true,true,true,true,true,true,false,false,false,false,false,false,false,false,false,false,false,false,false,false,false,false,false,false,false,false,false,false,false,false,false,false,false,false,false] rfl rfl (take_ofW HT_.out HW_.out (by kernel_rfl)) (fun _ _ _ h => h) (Or.inl ⟨by rfl, ?_⟩) hHeld ?_ ?_
                                 rotate_left; (· rintro w' ⟨s0, s1⟩; go_simp; with_reducible rfl); rotate_left; (· simp only [Act.put, q6d2_1, q6d2_2, q6d2_3, i64_w, i32_w]; rfl)
                                 refine pure_ (i := 14) (N := some 100) (v := ?_) (a' := ?_) #[true,true,true,true,true,true,true,true,true,true,true,true,true,true,true,false,false,false,false,false,false,false,false,false,false,false,false,false,false,false,false,false,false,false,false,false,false,false,false,false,false,false,false] rfl rfl (any_of HT_.out (by kernel_rfl)) (fun _ _ _ h => h) (Or.inl ⟨by rfl, ?_⟩) ?_ ?_
                                 rotate_left; (· intro w'; go_simp; with_reducible rfl); rotate_left; (· simp only [Act.put, q6d2_1, q6d2_2, q6d2_3, i64_w, i32_w]; rfl)
                                 refine pure_ (i := 15) (N := some 101) (v := ?_) (a' := ?_) #[true,true,true,true,true,true,true,true,true,true,true,true,true,true,true,true,false,false,false,false,false,false,false,false,false,false,false,false,false,false,false,false,false,false,false,false,false,false,false,false,false,false,false] rfl rfl (any_of HT_.out (by kernel_rfl)) (fun _ _ _ h => h) (Or.inl ⟨by rfl, ?_⟩) ?_ ?_
                                 rotate_left; (· intro w'; go_simp; with_reducible rfl); rotate_left; (· simp only [Act.put, q6d2_1, q6d2_2, q6d2_3, i64_w, i32_w]; rfl)
                                 refine pure_ (i := 16) (N := some 102) (v := ?_) (a' := ?_) #[true,true,true,true,true,true,true,true,true,true,true,true,true,true,true,true,true,false,false,false,false,false,false,false,false,false,false,false,false,false,false,false,false,false,false,false,false,false,false,false,false,false,false] rfl rfl (any_of HT_.out (by kernel_rfl)) (fun _ _ _ h => h) (Or.inl ⟨by rfl, ?_⟩) ?_ ?_
                                 rotate_left; (· intro w'; go_simp; with_reducible rfl); rotate_left; (· simp only [Act.put, q6d2_1, q6d2_2, q6d2_3, i64_w, i32_w]; rfl)
                                 refine pure_ (i := 17) (N := some 103) (v := undef) (a' := ?_) #[true,true,true,true,true,true,true,true,true,true,true,true,true,true,true,true,true,true,false,false,false,false,false,false,false,false,false,false,false,false,false,false,false,false,false,false,false,false,false,false,false,false,false] rfl rfl (any_of HT_.out (by kernel_rfl)) (fun _ _ _ h => h) (Or.inr ⟨by rfl, rfl⟩) ?_ ?_
                                 rotate_left
                                 ·
                                  simp only [Act.put, q6d2_1, q6d2_2, q6d2_3, i64_w, i32_w]
                                  rfl
                                 refine pure_ (i := 18) (N := some 104) (v := undef) (a' := ?_) #[true,true,true,true,true,true,true,true,true,true,true,true,true,true,true,true,true,true,true,false,false,false,false,false,false,false,false,false,false,false,false,false,false,false,false,false,false,false,false,false,false,false,false] rfl rfl (any_of HT_.out (by kernel_rfl)) (fun _ _ _ h => h) (Or.inr ⟨by rfl, rfl⟩) ?_ ?_
                                 rotate_left
                                 ·
                                  simp only [Act.put, q6d2_1, q6d2_2, q6d2_3, i64_w, i32_w]
                                  rfl
                                 refine pure_ (i := 19) (N := some 105) (v := undef) (a' := ?_) #[true,true,true,true,true,true,true,true,true,true,true,true,true,true,true,true,true,true,true,true,false,false,false,false,false,false,false,false,false,false,false,false,false,false,false,false,false,false,false,false,false,false,false] rfl rfl (any_of HT_.out (by kernel_rfl)) (fun _ _ _ h => h) (Or.inr ⟨by rfl, rfl⟩) ?_ ?_
                                 rotate_left
                                 ·
                                  simp only [Act.put, q6d2_1, q6d2_2, q6d2_3, i64_w, i32_w]
                                  rfl
                                 refine pure_ (i := 20) (N := some 106) (v := undef) (a' := ?_) #[true,true,true,true,true,true,true,true,true,true,true,true,true,true,true,true,true,true,true,true,true,false,false,false,false,false,false,false,false,false,false,false,false,false,false,false,false,false,false,false,false,false,false] rfl rfl (any_of HT_.out (by kernel_rfl)) (fun _ _ _ h => h) (Or.inr ⟨by rfl, rfl⟩) ?_ ?_
                                 rotate_left
                                 ·
                                  simp only [Act.put, q6d2_1, q6d2_2, q6d2_3, i64_w, i32_w]
                                  rfl
                                 refine pure_ (i := 21) (N := some 107) (v := undef) (a' := ?_) #[true,true,true,true,true,true,true,true,true,true,true,true,true,true,true,true,true,true,true,true,true,true,false,false,false,false,false,false,false,false,false,false,false,false,false,false,false,false,false,false,false,false,false] rfl rfl (any_of HT_.out (by kernel_rfl)) (fun _ _ _ h => h) (Or.inr ⟨by rfl, rfl⟩) ?_ ?_
                                 rotate_left
                                 ·
                                  simp only [Act.put, q6d2_1, q6d2_2, q6d2_3, i64_w, i32_w]
                                  rfl
                                 refine pure_ (i := 22) (N := some 108) (v := undef) (a' := ?_) #[true,true,true,true,true,true,true,true,true,true,true,true,true,true,true,true,true,true,true,true,true,true,true,false,false,false,false,false,false,false,false,false,false,false,false,false,false,false,false,false,false,false,false] rfl rfl (any_of HT_.out (by kernel_rfl)) (fun _ _ _ h => h) (Or.inr ⟨by rfl, rfl⟩) ?_ ?_
                                 rotate_left
                                 ·
                                  simp only [Act.put, q6d2_1, q6d2_2, q6d2_3, i64_w, i32_w]
                                  rfl
                                 refine pure_ (i := 23) (N := some 109) (v := undef) (a' := ?_) #[true,true,true,true,true,true,true,true,true,true,true,true,true,true,true,true,true,true,true,true,true,true,true,true,false,false,false,false,false,false,false,false,false,false,false,false,false,false,false,false,false,false,false] rfl rfl (any_of HT_.out (by kernel_rfl)) (fun _ _ _ h => h) (Or.inr ⟨by rfl, rfl⟩) ?_ ?_
                                 rotate_left
                                 ·
                                  simp only [Act.put, q6d2_1, q6d2_2, q6d2_3, i64_w, i32_w]
                                  rfl
                                 refine pure_ (i := 24) (N := some 110) (v := undef) (a' := ?_) #[true,true,true,true,true,true,true,true,true,true,true,true,true,true,true,true,true,true,true,true,true,true,true,true,true,false,false,false,false,false,false,false,false,false,false,false,false,false,false,false,false,false,false] rfl rfl (any_of HT_.out (by kernel_rfl)) (fun _ _ _ h => h) (Or.inr ⟨by rfl, rfl⟩) ?_ ?_
                                 rotate_left
                                 ·
                                  simp only [Act.put, q6d2_1, q6d2_2, q6d2_3, i64_w, i32_w]
                                  rfl
                                 refine pure_ (i := 25) (N := some 111) (v := undef) (a' := ?_) #[true,true,true,true,true,true,true,true,true,true,true,true,true,true,true,true,true,true,true,true,true,true,true,true,true,true,false,false,false,false,false,false,false,false,false,false,false,false,false,false,false,false,false] rfl rfl (any_of HT_.out (by kernel_rfl)) (fun _ _ _ h => h) (Or.inr ⟨by rfl, rfl⟩) ?_ ?_
                                 rotate_left
                                 ·
                                  simp only [Act.put, q6d2_1, q6d2_2, q6d2_3, i64_w, i32_w]
                                  rfl
                                 refine pure_ (i := 26) (N := some 112) (v := undef) (a' := ?_) #[true,true,true,true,true,true,true,true,true,true,true,true,true,true,true,true,true,true,true,true,true,true,true,true,true,true,true,false,false,false,false,false,false,false,false,false,false,false,false,false,false,false,false] rfl rfl (any_of HT_.out (by kernel_rfl)) (fun _ _ _ h => h) (Or.inr ⟨by rfl, rfl⟩) ?_ ?_
                                 rotate_left
                                 ·
                                  simp only [Act.put, q6d2_1, q6d2_2, q6d2_3, i64_w, i32_w]
                                  rfl
                                 refine pure_ (i := 27) (N := some 113) (v := undef) (a' := ?_) #[true,true,true,true,true,true,true,true,true,true,true,true,true,true,true,true,true,true,true,true,true,true,true,true,true,true,true,true,false,false,false,false,false,false,false,false,false,false,false,false,false,false,false] rfl rfl (any_of HT_.out (by kernel_rfl)) (fun _ _ _ h => h) (Or.inr ⟨by rfl, rfl⟩) ?_ ?_
                                 rotate_left
                                 ·
                                  simp only [Act.put, q6d2_1, q6d2_2, q6d2_3, i64_w, i32_w]
                                  rfl
                                 refine pure_ (i := 28) (N := some 114) (v := undef) (a' := ?_) #[true,true,true,true,true,true,true,true,true,true,true,true,true,true,true,true,true,true,true,true,true,true,true,true,true,true,true,true,true,false,false,false,false,false,false,false,false,false,false,false,false,false,false] rfl rfl (any_of HT_.out (by kernel_rfl)) (fun _ _ _ h => h) (Or.inr ⟨by rfl, rfl⟩) ?_ ?_
                                 rotate_left
                                 ·
                                  simp only [Act.put, q6d2_1, q6d2_2, q6d2_3, i64_w, i32_w]
                                  rfl
                                 refine pure_ (i := 29) (N := some 115) (v := undef) (a' := ?_) #[true,true,true,true,true,true,true,true,true,true,true,true,true,true,true,true,true,true,true,true,true,true,true,true,true,true,true,true,true,true,false,false,false,false,false,false,false,false,false,false,false,false,false] rfl rfl (any_of HT_.out (by kernel_rfl)) (fun _ _ _ h => h) (Or.inr ⟨by rfl, rfl⟩) ?_ ?_
                                 rotate_left
                                 ·
                                  simp only [Act.put, q6d2_1, q6d2_2, q6d2_3, i64_w, i32_w]
                                  rfl
                                 refine pure_ (i := 30) (N := some 116) (v := undef) (a' := ?_) #[true,true,true,true,true,true,true,true,true,true,true,true,true,true,true,true,true,true,true,true,true,true,true,true,true,true,true,true,true,true,true,false,false,false,false,false,false,false,false,false,false,false,false] rfl rfl (any_of HT_.out (by kernel_rfl)) (fun _ _ _ h => h) (Or.inr ⟨by rfl, rfl⟩) ?_ ?_
                                 rotate_left
                                 ·
                                  simp only [Act.put, q6d2_1, q6d2_2, q6d2_3, i64_w, i32_w]
                                  rfl
                                 refine pure_ (i := 31) (N := some 117) (v := undef) (a' := ?_) #[true,true,true,true,true,true,true,true,true,true,true,true,true,true,true,true,true,true,true,true,true,true,true,true,true,true,true,true,true,true,true,true,false,false,false,false,false,false,false,false,false,false,false] rfl rfl (any_of HT_.out (by kernel_rfl)) (fun _ _ _ h => h) (Or.inr ⟨by rfl, rfl⟩) ?_ ?_
                                 rotate_left
                                 ·
                                  simp only [Act.put, q6d2_1, q6d2_2, q6d2_3, i64_w, i32_w]
                                  rfl
                                 refine pure_ (i := 32) (N := some 118) (v := undef) (a' := ?_) #[true,true,true,true,true,true,true,true,true,true,true,true,true,true,true,true,true,true,true,true,true,true,true,true,true,true,true,true,true,true,true,true,true,false,false,false,false,false,false,false,false,false,false] rfl rfl (any_of HT_.out (by kernel_rfl)) (fun _ _ _ h => h) (Or.inr ⟨by rfl, rfl⟩) ?_ ?_
                                 rotate_left
                                 ·
                                  simp only [Act.put, q6d2_1, q6d2_2, q6d2_3, i64_w, i32_w]
                                  rfl
                                 refine pure_ (i := 33) (N := some 119) (v := undef) (a' := ?_) #[true,true,true,true,true,true,true,true,true,true,true,true,true,true,true,true,true,true,true,true,true,true,true,true,true,true,true,true,true,true,true,true,true,true,false,false,false,false,false,false,false,false,false] rfl rfl (any_of HT_.out (by kernel_rfl)) (fun _ _ _ h => h) (Or.inr ⟨by rfl, rfl⟩) ?_ ?_
                                 rotate_left
                                 ·
                                  simp only [Act.put, q6d2_1, q6d2_2, q6d2_3, i64_w, i32_w]
                                  rfl
                                 refine pure_ (i := 34) (N := some 120) (v := undef) (a' := ?_) #[true,true,true,true,true,true,true,true,true,true,true,true,true,true,true,true,true,true,true,true,true,true,true,true,true,true,true,true,true,true,true,true,true,true,true,false,false,false,false,false,false,false,false] rfl rfl (any_of HT_.out (by kernel_rfl)) (fun _ _ _ h => h) (Or.inr ⟨by rfl, rfl⟩) ?_ ?_
                                 rotate_left
                                 ·
                                  simp only [Act.put, q6d2_1, q6d2_2, q6d2_3, i64_w, i32_w]
                                  rfl
                                 refine pure_ (i := 35) (N := some 121) (v := undef) (a' := ?_) #[true,true,true,true,true,true,true,true,true,true,true,true,true,true,true,true,true,true,true,true,true,true,true,true,true,true,true,true,true,true,true,true,true,true,true,true,false,false,false,false,false,false,false] rfl rfl (any_of HT_.out (by kernel_rfl)) (fun _ _ _ h => h) (Or.inr ⟨by rfl, rfl⟩) ?_ ?_
                                 rotate_left
                                 ·
                                  simp only [Act.put, q6d2_1, q6d2_2, q6d2_3, i64_w, i32_w]
                                  rfl
                                 refine pure_ (i := 36) (N := some 122) (v := undef) (a' := ?_) #[true,true,true,true,true,true,true,true,true,true,true,true,true,true,true,true,true,true,true,true,true,true,true,true,true,true,true,true,true,true,true,true,true,true,true,true,true,false,false,false,false,false,false] rfl rfl (any_of HT_.out (by kernel_rfl)) (fun _ _ _ h => h) (Or.inr ⟨by rfl, rfl⟩) ?_ ?_
                                 rotate_left
                                 ·
                                  simp only [Act.put, q6d2_1, q6d2_2, q6d2_3, i64_w, i32_w]
                                  rfl
                                 refine pure_ (i := 37) (N := some 123) (v := undef) (a' := ?_) #[true,true,true,true,true,true,true,true,true,true,true,true,true,true,true,true,true,true,true,true,true,true,true,true,true,true,true,true,true,true,true,true,true,true,true,true,true,true,false,false,false,false,false] rfl rfl (any_of HT_.out (by kernel_rfl)) (fun _ _ _ h => h) (Or.inr ⟨by rfl, rfl⟩) ?_ ?_
                                 rotate_left
                                 ·
                                  simp only [Act.put, q6d2_1, q6d2_2, q6d2_3, i64_w, i32_w]
                                  rfl
                                 refine pure_ (i := 38) (N := some 124) (v := undef) (a' := ?_) #[true,true,true,true,true,true,true,true,true,true,true,true,true,true,true,true,true,true,true,true,true,true,true,true,true,true,true,true,true,true,true,true,true,true,true,true,true,true,true,false,false,false,false] rfl rfl (any_of HT_.out (by kernel_rfl)) (fun _ _ _ h => h) (Or.inr ⟨by rfl, rfl⟩) ?_ ?_
                                 rotate_left
                                 ·
                                  simp only [Act.put, q6d2_1, q6d2_2, q6d2_3, i64_w, i32_w]
                                  rfl
                                 refine pure_ (i := 39) (N := some 125) (v := undef) (a' := ?_) #[true,true,true,true,true,true,true,true,true,true,true,true,true,true,true,true,true,true,true,true,true,true,true,true,true,true,true,true,true,true,true,true,true,true,true,true,true,true,true,true,false,false,false] rfl rfl (any_of HT_.out (by kernel_rfl)) (fun _ _ _ h => h) (Or.inr ⟨by rfl, rfl⟩) ?_ ?_
                                 rotate_left
                                 ·
                                  simp only [Act.put, q6d2_1, q6d2_2, q6d2_3, i64_w, i32_w]
                                  rfl
                                 refine pure_ (i := 40) (N := some 126) (v := undef) (a' := ?_) #[true,true,true,true,true,true,true,true,true,true,true,true,true,true,true,true,true,true,true,true,true,true,true,true,true,true,true,true,true,true,true,true,true,true,true,true,true,true,true,true,true,false,false] rfl rfl (any_of HT_.out (by kernel_rfl)) (fun _ _ _ h => h) (Or.inr ⟨by rfl, rfl⟩) ?_ ?_
                                 rotate_left
                                 ·
                                  simp only [Act.put, q6d2_1, q6d2_2, q6d2_3, i64_w, i32_w]
                                  rfl
                                 refine pure_ (i := 41) (N := some 127) (v := undef) (a' := ?_) #[true,true,true,true,true,true,true,true,true,true,true,true,true,true,true,true,true,true,true,true,true,true,true,true,true,true,true,true,true,true,true,true,true,true,true,true,true,true,true,true,true,true,false] rfl rfl (any_of HT_.out (by kernel_rfl)) (fun _ _ _ h => h) (Or.inr ⟨by rfl, rfl⟩) ?_ ?_
                                 rotate_left
                                 ·
                                  simp only [Act.put, q6d2_1, q6d2_2, q6d2_3, i64_w, i32_w]
                                  rfl
                                 refine pure_ (i := 42) (N := some 128) (v := ?_) (a' := ?_) #[true,true,true,true,true,true,true,true,true,true,true,true,true,true,true,true,true,true,true,true,true,true,true,true,true,true,true,true,true,true,true,true,true,true,true,true,true,true,true,true,true,true,true] rfl rfl (any_of HT_.out (by kernel_rfl)) (fun _ _ _ h => h) (Or.inl ⟨by rfl, ?_⟩) ?_ ?_
                                 rotate_left; (· intro w'; go_simp; with_reducible rfl); rotate_left; (· simp only [Act.put, q6d2_1, q6d2_2, q6d2_3, i64_w, i32_w]; rfl)
                                 refine done_ (done_of HT_.out (by kernel_rfl)) ?_
                                 try go_wp2
                                 (try simp only [← hl5_5])
                                 go_roundg k5
                                 case measure => have := HK1.out; have := HK2.out; have := HK3.out; have := HK4.out; have := HK5.out; omega
                                 case rel => exact ⟨(x5_5), (wrap64 (x12_5 + 1)), (by first | rfl | simp), H', ⟨by have := HK1.out; have := HK2.out; have := HK3.out; have := HK4.out; have := HK5.out; omega⟩, ⟨by (try simp only [hl5_1]); (try simp only [hl5_2]); (try simp only [hl5_3]); (try simp only [hl5_4]); (try simp only [hl5_5]); exact HO_5.out⟩, ⟨by (try simp only [hl5_1]); (try simp only [hl5_2]); (try simp only [hl5_3]); (try simp only [hl5_4]); (try simp only [hl5_5]); (with_reducible repeat (first | apply Kd.S_alloc | apply Kd.S_drewN | apply Kd.S_drew)); exact HO_7.out⟩, ⟨by (try simp only [hl5_1]); (try simp only [hl5_2]); (try simp only [hl5_3]); (try simp only [hl5_4]); (try simp only [hl5_5]); (with_reducible repeat (first | refine blk_drewN ?_ _ | refine blk_drew ?_ | refine blk_alloc ?_ _)); exact BK101.out⟩, ⟨by repeat (first | (with_reducible first | exact HB.out | apply below_alloc | apply pw_below_drewN | apply below_drew1 | refine below_set ?_ GE101.out) | exact HB.out)⟩⟩
                               ·
                                rw [if_neg c55] at H
                                exact absurd H (by simp)
                              ·
                               rw [if_neg c54] at H
                               exact absurd H (by simp)
                             ·
                              rw [if_neg c53] at H
                              exact absurd H (by simp)
                            ·
                             rw [if_neg c52] at H
                             exact absurd H (by simp)
                           ·
                            rw [if_neg c51] at H
                            have c51b0 : ((Go.bits .and .i64 (ji50) 1) == 0) = false := beq_eq_false_iff_ne.mpr c51
                            have c51b1 : ((Go.bits .and .i64 (ji50) 1) != 0) = true := bne_iff_ne.mpr c51
                            have H' := Aside0.mk H
                            clear H
                            try go_wp2
                            have n0_ := Aside0.mk (Kd.R_drew HO_5.out)
                            have n1_ := Aside0.mk (Kd.S_drew HO_7.out)
                            have n2_ := Aside0.mk (blk_drew BK101.out)
                            have n3_ := Aside0.mk (below_drew1 HB.out)
                            clear HO_5
                            clear HO_7
                            clear BK101
                            clear HB
                            have HO_5 := n0_
                            have HO_7 := n1_
                            have BK101 := n2_
                            have HB := n3_
                            clear n0_ n1_ n2_ n3_
                            refine start_ (n := 43) (S := fun w' => True) (ds := []) #[false,false,false,false,false,false,false,false,false,false,false,false,false,false,false,false,false,false,false,false,false,false,false,false,false,false,false,false,false,false,false,false,false,false,false,false,false,false,false,false,false,false,false] (by kernel_rfl) rfl rfl trivial (fun hHeld => ?_); refine with_tabW spec_ShortestRound.tab28 spec_ShortestRound.bits28 (fun HT_ HW_ => ?_)
                            generalize wr.drew = w76 at HO_5 HO_7 BK101 HB hHeld ⊢
                            refine pure_ (i := 0) (N := some 86) (v := ?_) (a' := ?_) #[true,false,false,false,false,false,false,false,false,false,false,false,false,false,false,false,false,false,false,false,false,false,false,false,false,false,false,false,false,false,false,false,false,false,false,false,false,false,false,false,false,false,false] rfl rfl (any_of HT_.out (by kernel_rfl)) (fun _ _ _ h => h) (Or.inl ⟨by rfl, ?_⟩) ?_ ?_
                            rotate_left; (· intro w'; go_simp; with_reducible rfl); rotate_left; (· simp only [Act.put, q6d2_1, q6d2_2, q6d2_3, i64_w, i32_w]; rfl)
                            refine pure_ (i := 1) (N := some 87) (v := ?_) (a' := ?_) #[true,true,false,false,false,false,false,false,false,false,false,false,false,false,false,false,false,false,false,false,false,false,false,false,false,false,false,false,false,false,false,false,false,false,false,false,false,false,false,false,false,false,false] rfl rfl (any_of HT_.out (by kernel_rfl)) (fun _ _ _ h => h) (Or.inl ⟨by rfl, ?_⟩) ?_ ?_
                            rotate_left; (· intro w'; go_simp; with_reducible rfl); rotate_left; (· simp only [Act.put, q6d2_1, q6d2_2, q6d2_3, i64_w, i32_w]; rfl)
                            refine pure_ (i := 2) (N := some 88) (v := ?_) (a' := ?_) #[true,true,true,false,false,false,false,false,false,false,false,false,false,false,false,false,false,false,false,false,false,false,false,false,false,false,false,false,false,false,false,false,false,false,false,false,false,false,false,false,false,false,false] rfl rfl (any_of HT_.out (by kernel_rfl)) (fun _ _ _ h => h) (Or.inl ⟨by rfl, ?_⟩) ?_ ?_
                            rotate_left; (· intro w'; go_simp; with_reducible rfl); rotate_left; (· simp only [Act.put, q6d2_1, q6d2_2, q6d2_3, i64_w, i32_w]; rfl)
                            refine pure_ (i := 3) (N := some 89) (v := ?_) (a' := ?_) #[true,true,true,true,false,false,false,false,false,false,false,false,false,false,false,false,false,false,false,false,false,false,false,false,false,false,false,false,false,false,false,false,false,false,false,false,false,false,false,false,false,false,false] rfl rfl (any_of HT_.out (by kernel_rfl)) (fun _ _ _ h => h) (Or.inl ⟨by rfl, ?_⟩) ?_ ?_
                            rotate_left; (· intro w'; go_simp; with_reducible rfl); rotate_left; (· simp only [Act.put, q6d2_1, q6d2_2, q6d2_3, i64_w, i32_w]; rfl)
                            refine pure_ (i := 4) (N := some 90) (v := ?_) (a' := ?_) #[true,true,true,true,true,false,false,false,false,false,false,false,false,false,false,false,false,false,false,false,false,false,false,false,false,false,false,false,false,false,false,false,false,false,false,false,false,false,false,false,false,false,false] rfl rfl (any_of HT_.out (by kernel_rfl)) (fun _ _ _ h => h) (Or.inl ⟨by rfl, ?_⟩) ?_ ?_
                            rotate_left; (· intro w'; go_simp; with_reducible rfl); rotate_left; (· simp only [Act.put, q6d2_1, q6d2_2, q6d2_3, i64_w, i32_w]; rfl)
                            refine pure_ (i := 5) (N := some 91) (v := ?_) (a' := ?_) #[true,true,true,true,true,true,false,false,false,false,false,false,false,false,false,false,false,false,false,false,false,false,false,false,false,false,false,false,false,false,false,false,false,false,false,false,false,false,false,false,false,false,false] rfl rfl (any_of HT_.out (by kernel_rfl)) (fun _ _ _ h => h) (Or.inl ⟨by rfl, ?_⟩) ?_ ?_
                            rotate_left; (· intro w'; go_simp; with_reducible rfl); rotate_left; (· simp only [Act.put, q6d2_1, q6d2_2, q6d2_3, i64_w, i32_w]; rfl)
                            refine pure_ (i := 6) (N := some 92) (v := ?_) (a' := ?_) #[true,true,true,true,true,true,true,false,false,false,false,false,false,false,false,false,false,false,false,false,false,false,false,false,false,false,false,false,false,false,false,false,false,false,false,false,false,false,false,false,false,false,false] rfl rfl (any_of HT_.out (by kernel_rfl)) (fun _ _ _ h => h) (Or.inl ⟨by rfl, ?_⟩) ?_ ?_
                            rotate_left; (· intro w'; go_simp; with_reducible rfl); rotate_left; (· simp only [Act.put, q6d2_1, q6d2_2, q6d2_3, i64_w, i32_w]; rfl)
                            refine pure_ (i := 7) (N := some 93) (v := undef) (a' := ?_) #[true,true,true,true,true,true,true,true,false,false,false,false,false,false,false,false,false,false,false,false,false,false,false,false,false,false,false,false,false,false,false,false,false,false,false,false,false,false,false,false,false,false,false] rfl rfl (any_of HT_.out (by kernel_rfl)) (fun _ _ _ h => h) (Or.inr ⟨by rfl, rfl⟩) ?_ ?_
                            rotate_left
                            ·
                             simp only [Act.put, q6d2_1, q6d2_2, q6d2_3, i64_w, i32_w]
                             rfl
                            refine pure_ (i := 8) (N := some 94) (v := undef) (a' := ?_) #[true,true,true,true,true,true,true,true,true,false,false,false,false,false,false,false,false,false,false,false,false,false,false,false,false,false,false,false,false,false,false,false,false,false,false,false,false,false,false,false,false,false,false] rfl rfl (any_of HT_.out (by kernel_rfl)) (fun _ _ _ h => h) (Or.inr ⟨by rfl, rfl⟩) ?_ ?_
                            rotate_left
                            ·
                             simp only [Act.put, q6d2_1, q6d2_2, q6d2_3, i64_w, i32_w]
                             rfl
                            refine pure_ (i := 9) (N := some 95) (v := undef) (a' := ?_) #[true,true,true,true,true,true,true,true,true,true,false,false,false,false,false,false,false,false,false,false,false,false,false,false,false,false,false,false,false,false,false,false,false,false,false,false,false,false,false,false,false,false,false] rfl rfl (any_of HT_.out (by kernel_rfl)) (fun _ _ _ h => h) (Or.inr ⟨by rfl, rfl⟩) ?_ ?_
                            rotate_left
                            ·
                             simp only [Act.put, q6d2_1, q6d2_2, q6d2_3, i64_w, i32_w]
                             rfl
                            refine pure_ (i := 10) (N := some 96) (v := undef) (a' := ?_) #[true,true,true,true,true,true,true,true,true,true,true,false,false,false,false,false,false,false,false,false,false,false,false,false,false,false,false,false,false,false,false,false,false,false,false,false,false,false,false,false,false,false,false] rfl rfl (any_of HT_.out (by kernel_rfl)) (fun _ _ _ h => h) (Or.inr ⟨by rfl, rfl⟩) ?_ ?_
                            rotate_left
                            ·
                             simp only [Act.put, q6d2_1, q6d2_2, q6d2_3, i64_w, i32_w]
                             rfl
                            refine pure_ (i := 11) (N := some 97) (v := undef) (a' := ?_) #[true,true,true,true,true,true,true,true,true,true,true,true,false,false,false,false,false,false,false,false,false,false,false,false,false,false,false,false,false,false,false,false,false,false,false,false,false,false,false,false,false,false,false] rfl rfl (any_of HT_.out (by kernel_rfl)) (fun _ _ _ h => h) (Or.inr ⟨by rfl, rfl⟩) ?_ ?_
                            rotate_left
                            ·
                             simp only [Act.put, q6d2_1, q6d2_2, q6d2_3, i64_w, i32_w]
                             rfl
                            refine pure_ (i := 12) (N := some 98) (v := undef) (a' := ?_) #[true,true,true,true,true,true,true,true,true,true,true,true,true,false,false,false,false,false,false,false,false,false,false,false,false,false,false,false,false,false,false,false,false,false,false,false,false,false,false,false,false,false,false] rfl rfl (any_of HT_.out (by kernel_rfl)) (fun _ _ _ h => h) (Or.inr ⟨by rfl, rfl⟩) ?_ ?_
                            rotate_left
                            ·
                             simp only [Act.put, q6d2_1, q6d2_2, q6d2_3, i64_w, i32_w]
                             rfl
                            refine pure_ (i := 13) (N := some 99) (v := undef) (a' := ?_) #[true,true,true,true,true,true,true,true,true,true,true,true,true,true,false,false,false,false,false,false,false,false,false,false,false,false,false,false,false,false,false,false,false,false,false,false,false,false,false,false,false,false,false] rfl rfl (any_of HT_.out (by kernel_rfl)) (fun _ _ _ h => h) (Or.inr ⟨by rfl, rfl⟩) ?_ ?_
                            rotate_left
                            ·
                             simp only [Act.put, q6d2_1, q6d2_2, q6d2_3, i64_w, i32_w]
                             rfl
                            refine pure_ (i := 14) (N := some 100) (v := undef) (a' := ?_) #[true,true,true,true,true,true,true,true,true,true,true,true,true,true,true,false,false,false,false,false,false,false,false,false,false,false,false,false,false,false,false,false,false,false,false,false,false,false,false,false,false,false,false] rfl rfl (any_of HT_.out (by kernel_rfl)) (fun _ _ _ h => h) (Or.inr ⟨by rfl, rfl⟩) ?_ ?_
                            rotate_left
                            ·
                             simp only [Act.put, q6d2_1, q6d2_2, q6d2_3, i64_w, i32_w]
                             rfl
                            refine pure_ (i := 15) (N := some 101) (v := ?_) (a' := ?_) #[true,true,true,true,true,true,true,true,true,true,true,true,true,true,true,true,false,false,false,false,false,false,false,false,false,false,false,false,false,false,false,false,false,false,false,false,false,false,false,false,false,false,false] rfl rfl (any_of HT_.out (by kernel_rfl)) (fun _ _ _ h => h) (Or.inl ⟨by rfl, ?_⟩) ?_ ?_
                            rotate_left; (· intro w'; go_simp; with_reducible rfl); rotate_left; (· simp only [Act.put, q6d2_1, q6d2_2, q6d2_3, i64_w, i32_w]; rfl)
                            refine pure_ (i := 16) (N := some 102) (v := ?_) (a' := ?_) #[true,true,true,true,true,true,true,true,true,true,true,true,true,true,true,true,true,false,false,false,false,false,false,false,false,false,false,false,false,false,false,false,false,false,false,false,false,false,false,false,false,false,false] rfl rfl (any_of HT_.out (by kernel_rfl)) (fun _ _ _ h => h) (Or.inl ⟨by rfl, ?_⟩) ?_ ?_
                            rotate_left; (· intro w'; go_simp; with_reducible rfl); rotate_left; (· simp only [Act.put, q6d2_1, q6d2_2, q6d2_3, i64_w, i32_w]; rfl)
                            refine pure_ (i := 17) (N := some 103) (v := undef) (a' := ?_) #[true,true,true,true,true,true,true,true,true,true,true,true,true,true,true,true,true,true,false,false,false,false,false,false,false,false,false,false,false,false,false,false,false,false,false,false,false,false,false,false,false,false,false] rfl rfl (any_of HT_.out (by kernel_rfl)) (fun _ _ _ h => h) (Or.inr ⟨by rfl, rfl⟩) ?_ ?_
                            rotate_left
                            ·
                             simp only [Act.put, q6d2_1, q6d2_2, q6d2_3, i64_w, i32_w]
                             rfl
                            refine pure_ (i := 18) (N := some 104) (v := undef) (a' := ?_) #[true,true,true,true,true,true,true,true,true,true,true,true,true,true,true,true,true,true,true,false,false,false,false,false,false,false,false,false,false,false,false,false,false,false,false,false,false,false,false,false,false,false,false] rfl rfl (any_of HT_.out (by kernel_rfl)) (fun _ _ _ h => h) (Or.inr ⟨by rfl, rfl⟩) ?_ ?_
                            rotate_left
                            ·
                             simp only [Act.put, q6d2_1, q6d2_2, q6d2_3, i64_w, i32_w]
                             rfl
                            refine pure_ (i := 19) (N := some 105) (v := undef) (a' := ?_) #[true,true,true,true,true,true,true,true,true,true,true,true,true,true,true,true,true,true,true,true,false,false,false,false,false,false,false,false,false,false,false,false,false,false,false,false,false,false,false,false,false,false,false] rfl rfl (any_of HT_.out (by kernel_rfl)) (fun _ _ _ h => h) (Or.inr ⟨by rfl, rfl⟩) ?_ ?_
                            rotate_left
                            ·
                             simp only [Act.put, q6d2_1, q6d2_2, q6d2_3, i64_w, i32_w]
                             rfl
                            refine pure_ (i := 20) (N := some 106) (v := undef) (a' := ?_) #[true,true,true,true,true,true,true,true,true,true,true,true,true,true,true,true,true,true,true,true,true,false,false,false,false,false,false,false,false,false,false,false,false,false,false,false,false,false,false,false,false,false,false] rfl rfl (any_of HT_.out (by kernel_rfl)) (fun _ _ _ h => h) (Or.inr ⟨by rfl, rfl⟩) ?_ ?_
                            rotate_left
                            ·
                             simp only [Act.put, q6d2_1, q6d2_2, q6d2_3, i64_w, i32_w]
                             rfl
                            refine pure_ (i := 21) (N := some 107) (v := undef) (a' := ?_) #[true,true,true,true,true,true,true,true,true,true,true,true,true,true,true,true,true,true,true,true,true,true,false,false,false,false,false,false,false,false,false,false,false,false,false,false,false,false,false,false,false,false,false] rfl rfl (any_of HT_.out (by kernel_rfl)) (fun _ _ _ h => h) (Or.inr ⟨by rfl, rfl⟩) ?_ ?_
                            rotate_left
                            ·
                             simp only [Act.put, q6d2_1, q6d2_2, q6d2_3, i64_w, i32_w]
                             rfl
                            refine pure_ (i := 22) (N := some 108) (v := undef) (a' := ?_) #[true,true,true,true,true,true,true,true,true,true,true,true,true,true,true,true,true,true,true,true,true,true,true,false,false,false,false,false,false,false,false,false,false,false,false,false,false,false,false,false,false,false,false] rfl rfl (any_of HT_.out (by kernel_rfl)) (fun _ _ _ h => h) (Or.inr ⟨by rfl, rfl⟩) ?_ ?_
                            rotate_left
                            ·
                             simp only [Act.put, q6d2_1, q6d2_2, q6d2_3, i64_w, i32_w]
                             rfl
                            refine pure_ (i := 23) (N := some 109) (v := undef) (a' := ?_) #[true,true,true,true,true,true,true,true,true,true,true,true,true,true,true,true,true,true,true,true,true,true,true,true,false,false,false,false,false,false,false,false,false,false,false,false,false,false,false,false,false,false,false] rfl rfl (any_of HT_.out (by kernel_rfl)) (fun _ _ _ h => h) (Or.inr ⟨by rfl, rfl⟩) ?_ ?_
                            rotate_left
                            ·
                             simp only [Act.put, q6d2_1, q6d2_2, q6d2_3, i64_w, i32_w]
                             rfl
                            refine pure_ (i := 24) (N := some 110) (v := undef) (a' := ?_) #[true,true,true,true,true,true,true,true,true,true,true,true,true,true,true,true,true,true,true,true,true,true,true,true,true,false,false,false,false,false,false,false,false,false,false,false,false,false,false,false,false,false,false] rfl rfl (any_of HT_.out (by kernel_rfl)) (fun _ _ _ h => h) (Or.inr ⟨by rfl, rfl⟩) ?_ ?_
                            rotate_left
                            ·
                             simp only [Act.put, q6d2_1, q6d2_2, q6d2_3, i64_w, i32_w]
                             rfl
                            refine pure_ (i := 25) (N := some 111) (v := undef) (a' := ?_) #[true,true,true,true,true,true,true,true,true,true,true,true,true,true,true,true,true,true,true,true,true,true,true,true,true,true,false,false,false,false,false,false,false,false,false,false,false,false,false,false,false,false,false] rfl rfl (any_of HT_.out (by kernel_rfl)) (fun _ _ _ h => h) (Or.inr ⟨by rfl, rfl⟩) ?_ ?_
                            rotate_left
                            ·
                             simp only [Act.put, q6d2_1, q6d2_2, q6d2_3, i64_w, i32_w]
                             rfl
                            refine pure_ (i := 26) (N := some 112) (v := undef) (a' := ?_) #[true,true,true,true,true,true,true,true,true,true,true,true,true,true,true,true,true,true,true,true,true,true,true,true,true,true,true,false,false,false,false,false,false,false,false,false,false,false,false,false,false,false,false] rfl rfl (any_of HT_.out (by kernel_rfl)) (fun _ _ _ h => h) (Or.inr ⟨by rfl, rfl⟩) ?_ ?_
                            rotate_left
                            ·
                             simp only [Act.put, q6d2_1, q6d2_2, q6d2_3, i64_w, i32_w]
                             rfl
                            refine pure_ (i := 27) (N := some 113) (v := undef) (a' := ?_) #[true,true,true,true,true,true,true,true,true,true,true,true,true,true,true,true,true,true,true,true,true,true,true,true,true,true,true,true,false,false,false,false,false,false,false,false,false,false,false,false,false,false,false] rfl rfl (any_of HT_.out (by kernel_rfl)) (fun _ _ _ h => h) (Or.inr ⟨by rfl, rfl⟩) ?_ ?_
                            rotate_left
                            ·
                             simp only [Act.put, q6d2_1, q6d2_2, q6d2_3, i64_w, i32_w]
                             rfl
                            refine pure_ (i := 28) (N := some 114) (v := undef) (a' := ?_) #[true,true,true,true,true,true,true,true,true,true,true,true,true,true,true,true,true,true,true,true,true,true,true,true,true,true,true,true,true,false,false,false,false,false,false,false,false,false,false,false,false,false,false] rfl rfl (any_of HT_.out (by kernel_rfl)) (fun _ _ _ h => h) (Or.inr ⟨by rfl, rfl⟩) ?_ ?_
                            rotate_left
                            ·
                             simp only [Act.put, q6d2_1, q6d2_2, q6d2_3, i64_w, i32_w]
                             rfl
                            refine pure_ (i := 29) (N := some 115) (v := undef) (a' := ?_) #[true,true,true,true,true,true,true,true,true,true,true,true,true,true,true,true,true,true,true,true,true,true,true,true,true,true,true,true,true,true,false,false,false,false,false,false,false,false,false,false,false,false,false] rfl rfl (any_of HT_.out (by kernel_rfl)) (fun _ _ _ h => h) (Or.inr ⟨by rfl, rfl⟩) ?_ ?_
                            rotate_left
                            ·
                             simp only [Act.put, q6d2_1, q6d2_2, q6d2_3, i64_w, i32_w]
                             rfl
                            refine pure_ (i := 30) (N := some 116) (v := undef) (a' := ?_) #[true,true,true,true,true,true,true,true,true,true,true,true,true,true,true,true,true,true,true,true,true,true,true,true,true,true,true,true,true,true,true,false,false,false,false,false,false,false,false,false,false,false,false] rfl rfl (any_of HT_.out (by kernel_rfl)) (fun _ _ _ h => h) (Or.inr ⟨by rfl, rfl⟩) ?_ ?_
                            rotate_left
                            ·
                             simp only [Act.put, q6d2_1, q6d2_2, q6d2_3, i64_w, i32_w]
                             rfl
                            refine pure_ (i := 31) (N := some 117) (v := undef) (a' := ?_) #[true,true,true,true,true,true,true,true,true,true,true,true,true,true,true,true,true,true,true,true,true,true,true,true,true,true,true,true,true,true,true,true,false,false,false,false,false,false,false,false,false,false,false] rfl rfl (any_of HT_.out (by kernel_rfl)) (fun _ _ _ h => h) (Or.inr ⟨by rfl, rfl⟩) ?_ ?_
                            rotate_left
                            ·
                             simp only [Act.put, q6d2_1, q6d2_2, q6d2_3, i64_w, i32_w]
                             rfl
                            refine pure_ (i := 32) (N := some 118) (v := undef) (a' := ?_) #[true,true,true,true,true,true,true,true,true,true,true,true,true,true,true,true,true,true,true,true,true,true,true,true,true,true,true,true,true,true,true,true,true,false,false,false,false,false,false,false,false,false,false] rfl rfl (any_of HT_.out (by kernel_rfl)) (fun _ _ _ h => h) (Or.inr ⟨by rfl, rfl⟩) ?_ ?_
                            rotate_left
                            ·
                             simp only [Act.put, q6d2_1, q6d2_2, q6d2_3, i64_w, i32_w]
                             rfl
                            refine pure_ (i := 33) (N := some 119) (v := undef) (a' := ?_) #[true,true,true,true,true,true,true,true,true,true,true,true,true,true,true,true,true,true,true,true,true,true,true,true,true,true,true,true,true,true,true,true,true,true,false,false,false,false,false,false,false,false,false] rfl rfl (any_of HT_.out (by kernel_rfl)) (fun _ _ _ h => h) (Or.inr ⟨by rfl, rfl⟩) ?_ ?_
                            rotate_left
                            ·
                             simp only [Act.put, q6d2_1, q6d2_2, q6d2_3, i64_w, i32_w]
                             rfl
                            refine pure_ (i := 34) (N := some 120) (v := undef) (a' := ?_) #[true,true,true,true,true,true,true,true,true,true,true,true,true,true,true,true,true,true,true,true,true,true,true,true,true,true,true,true,true,true,true,true,true,true,true,false,false,false,false,false,false,false,false] rfl rfl (any_of HT_.out (by kernel_rfl)) (fun _ _ _ h => h) (Or.inr ⟨by rfl, rfl⟩) ?_ ?_
                            rotate_left
                            ·
                             simp only [Act.put, q6d2_1, q6d2_2, q6d2_3, i64_w, i32_w]
                             rfl
                            refine pure_ (i := 35) (N := some 121) (v := undef) (a' := ?_) #[true,true,true,true,true,true,true,true,true,true,true,true,true,true,true,true,true,true,true,true,true,true,true,true,true,true,true,true,true,true,true,true,true,true,true,true,false,false,false,false,false,false,false] rfl rfl (any_of HT_.out (by kernel_rfl)) (fun _ _ _ h => h) (Or.inr ⟨by rfl, rfl⟩) ?_ ?_
                            rotate_left
                            ·
                             simp only [Act.put, q6d2_1, q6d2_2, q6d2_3, i64_w, i32_w]
                             rfl
                            refine pure_ (i := 36) (N := some 122) (v := undef) (a' := ?_) #[true,true,true,true,true,true,true,true,true,true,true,true,true,true,true,true,true,true,true,true,true,true,true,true,true,true,true,true,true,true,true,true,true,true,true,true,true,false,false,false,false,false,false] rfl rfl (any_of HT_.out (by kernel_rfl)) (fun _ _ _ h => h) (Or.inr ⟨by rfl, rfl⟩) ?_ ?_
                            rotate_left
                            ·
                             simp only [Act.put, q6d2_1, q6d2_2, q6d2_3, i64_w, i32_w]
                             rfl
                            refine pure_ (i := 37) (N := some 123) (v := undef) (a' := ?_) #[true,true,true,true,true,true,true,true,true,true,true,true,true,true,true,true,true,true,true,true,true,true,true,true,true,true,true,true,true,true,true,true,true,true,true,true,true,true,false,false,false,false,false] rfl rfl (any_of HT_.out (by kernel_rfl)) (fun _ _ _ h => h) (Or.inr ⟨by rfl, rfl⟩) ?_ ?_
                            rotate_left
                            ·
                             simp only [Act.put, q6d2_1, q6d2_2, q6d2_3, i64_w, i32_w]
                             rfl
                            refine pure_ (i := 38) (N := some 124) (v := undef) (a' := ?_) #[true,true,true,true,true,true,true,true,true,true,true,true,true,true,true,true,true,true,true,true,true,true,true,true,true,true,true,true,true,true,true,true,true,true,true,true,true,true,true,false,false,false,false] rfl rfl (any_of HT_.out (by kernel_rfl)) (fun _ _ _ h => h) (Or.inr ⟨by rfl, rfl⟩) ?_ ?_
                            rotate_left
                            ·
                             simp only [Act.put, q6d2_1, q6d2_2, q6d2_3, i64_w, i32_w]
                             rfl
                            refine pure_ (i := 39) (N := some 125) (v := undef) (a' := ?_) #[true,true,true,true,true,true,true,true,true,true,true,true,true,true,true,true,true,true,true,true,true,true,true,true,true,true,true,true,true,true,true,true,true,true,true,true,true,true,true,true,false,false,false] rfl rfl (any_of HT_.out (by kernel_rfl)) (fun _ _ _ h => h) (Or.inr ⟨by rfl, rfl⟩) ?_ ?_
                            rotate_left
                            ·
                             simp only [Act.put, q6d2_1, q6d2_2, q6d2_3, i64_w, i32_w]
                             rfl
                            refine pure_ (i := 40) (N := some 126) (v := undef) (a' := ?_) #[true,true,true,true,true,true,true,true,true,true,true,true,true,true,true,true,true,true,true,true,true,true,true,true,true,true,true,true,true,true,true,true,true,true,true,true,true,true,true,true,true,false,false] rfl rfl (any_of HT_.out (by kernel_rfl)) (fun _ _ _ h => h) (Or.inr ⟨by rfl, rfl⟩) ?_ ?_
                            rotate_left
                            ·
                             simp only [Act.put, q6d2_1, q6d2_2, q6d2_3, i64_w, i32_w]
                             rfl
                            refine pure_ (i := 41) (N := some 127) (v := undef) (a' := ?_) #[true,true,true,true,true,true,true,true,true,true,true,true,true,true,true,true,true,true,true,true,true,true,true,true,true,true,true,true,true,true,true,true,true,true,true,true,true,true,true,true,true,true,false] rfl rfl (any_of HT_.out (by kernel_rfl)) (fun _ _ _ h => h) (Or.inr ⟨by rfl, rfl⟩) ?_ ?_
                            rotate_left
                            ·
                             simp only [Act.put, q6d2_1, q6d2_2, q6d2_3, i64_w, i32_w]
                             rfl
                            refine pure_ (i := 42) (N := some 128) (v := ?_) (a' := ?_) #[true,true,true,true,true,true,true,true,true,true,true,true,true,true,true,true,true,true,true,true,true,true,true,true,true,true,true,true,true,true,true,true,true,true,true,true,true,true,true,true,true,true,true] rfl rfl (any_of HT_.out (by kernel_rfl)) (fun _ _ _ h => h) (Or.inl ⟨by rfl, ?_⟩) ?_ ?_
                            rotate_left; (· intro w'; go_simp; with_reducible rfl); rotate_left; (· simp only [Act.put, q6d2_1, q6d2_2, q6d2_3, i64_w, i32_w]; rfl)
                            refine done_ (done_of HT_.out (by kernel_rfl)) ?_
                            try go_wp2
                            (try simp only [← hl5_5])
                            go_roundg k5
                            case measure => have := HK1.out; have := HK2.out; have := HK3.out; have := HK4.out; have := HK5.out; omega
                            case rel => exact ⟨(x5_5), (wrap64 (x12_5 + 1)), (by first | rfl | simp), H', ⟨by have := HK1.out; have := HK2.out; have := HK3.out; have := HK4.out; have := HK5.out; omega⟩, ⟨by (try simp only [hl5_1]); (try simp only [hl5_2]); (try simp only [hl5_3]); (try simp only [hl5_4]); (try simp only [hl5_5]); exact HO_5.out⟩, ⟨by (try simp only [hl5_1]); (try simp only [hl5_2]); (try simp only [hl5_3]); (try simp only [hl5_4]); (try simp only [hl5_5]); (with_reducible repeat (first | apply Kd.S_alloc | apply Kd.S_drewN | apply Kd.S_drew)); exact HO_7.out⟩, ⟨by (try simp only [hl5_1]); (try simp only [hl5_2]); (try simp only [hl5_3]); (try simp only [hl5_4]); (try simp only [hl5_5]); (with_reducible repeat (first | refine blk_drewN ?_ _ | refine blk_drew ?_ | refine blk_alloc ?_ _)); exact BK101.out⟩, ⟨by repeat (first | (with_reducible first | exact HB.out | apply below_alloc | apply pw_below_drewN | apply below_drew1 | refine below_set ?_ GE101.out) | exact HB.out)⟩⟩
                          ·
                           rw [if_neg c47] at H
                           exact absurd H (by simp)
                         ·
                          rw [if_neg c45] at H
                          have c45b0 : decide (x12_5 < a0_0) = false := decide_eq_false c45
                          clear c45
                          have H' := Aside0.mk H
                          clear H
                          go_wp2
                          (try simp only [← hl5_4, ← hl5_5])
                          go_roundg k5
                          case measure => have := HK1.out; have := HK2.out; have := HK3.out; have := HK4.out; have := HK5.out; omega
                          case rel => exact ⟨(x5_5), (wrap64 (x10_4 + 1)), (by first | rfl | simp), H', ⟨by have := HK1.out; have := HK2.out; have := HK3.out; have := HK4.out; have := HK5.out; omega⟩, ⟨by (try simp only [hl5_1]); (try simp only [hl5_2]); (try simp only [hl5_3]); (try simp only [hl5_4]); (try simp only [hl5_5]); exact HO_5.out⟩, ⟨by (try simp only [hl5_1]); (try simp only [hl5_2]); (try simp only [hl5_3]); (try simp only [hl5_4]); (try simp only [hl5_5]); (with_reducible repeat (first | apply Kd.S_alloc | apply Kd.S_drewN | apply Kd.S_drew)); exact HO_7.out⟩, ⟨by (try simp only [hl5_1]); (try simp only [hl5_2]); (try simp only [hl5_3]); (try simp only [hl5_4]); (try simp only [hl5_5]); (with_reducible repeat (first | refine blk_drewN ?_ _ | refine blk_drew ?_ | refine blk_alloc ?_ _)); exact BK101.out⟩, ⟨by repeat (first | (with_reducible first | exact HB.out | apply below_alloc | apply pw_below_drewN | apply below_drew1 | refine below_set ?_ GE101.out) | exact HB.out)⟩⟩
                     ·
                      rw [if_neg c43] at H
                      exact absurd H (by simp)
                    ·
                     rw [if_neg c42] at H
                     exact absurd H (by simp)
                   ·
                    rw [if_neg c40] at H
                    have c40b0 : decide (x10_4 < a0_0) = false := decide_eq_false c40
                    clear c40
                    have H' := Aside0.mk H
                    clear H
                    go_wp2
                    (try simp only [← hl5_3, ← hl5_4])
                    go_roundg k4
                    case measure => have := HK1.out; have := HK2.out; have := HK3.out; have := HK4.out; omega
                    case rel => exact ⟨(x5_4), (wrap64 (x9_3 + 1)), (by first | rfl | simp), H', ⟨by have := HK1.out; have := HK2.out; have := HK3.out; have := HK4.out; omega⟩, ⟨by (try simp only [hl5_1]); (try simp only [hl5_2]); (try simp only [hl5_3]); (try simp only [hl5_4]); exact HO_5.out⟩, ⟨by (try simp only [hl5_1]); (try simp only [hl5_2]); (try simp only [hl5_3]); (try simp only [hl5_4]); (with_reducible repeat (first | apply Kd.S_alloc | apply Kd.S_drewN | apply Kd.S_drew)); exact HO_7.out⟩, ⟨by (try simp only [hl5_1]); (try simp only [hl5_2]); (try simp only [hl5_3]); (try simp only [hl5_4]); (with_reducible repeat (first | refine blk_drewN ?_ _ | refine blk_drew ?_ | refine blk_alloc ?_ _)); exact BK101.out⟩, ⟨by repeat (first | (with_reducible first | exact HB.out | apply below_alloc | apply pw_below_drewN | apply below_drew1 | refine below_set ?_ GE101.out) | exact HB.out)⟩⟩
                ·
                 rw [if_neg c39] at H
                 have c39b0 : decide (x9_3 < (ji38)) = false := decide_eq_false c39
                 clear c39
                 have c77b0 := eq_true (of_decide_eq_true (by assumption) : 0 ≤ (ji36))
                 have H' := Aside0.mk H
                 clear H
                 go_wp2
                 go_loopg [14, 16] k3 (fun kq v14 v16 w' => ∃ (x14_4 : Int) (x16_4 : Int), v14 = .int .i64 x14_4 ∧ v16 = .int .i64 x16_4 ∧ Aside0 (spec_ShortestRound.l5 kq a0_0 x5_3 x7_2 x14_4 (wrap64 ((wrap64 ((ji38) - 1)) * a0_0)) x16_4 = some (r1, r2)) ∧ Aside0 (kq ≤ k3) ∧ Aside0 (Kd.R (Kd.int .i64) 2 w' w.heap.size (fun _ => True) (.slice (some ⟨go24, 0, none⟩) x5_3.length co15) x5_3) ∧ Aside0 (Kd.S (Kd.slice 2 (Kd.int .i64)) 30 w' w.heap.size (fun k_ => some k_ ≠ ((.slice (some ⟨go24, 0, none⟩) x5_3.length co15) : Value).ownBlock) u7 x7_2) ∧ Aside0 (w'.heap[gb101]? = some (.cells #[.int .i64 a0_0, .int .i64 a0_1] 26 (0, 0))) ∧ Aside0 (Below w.heap.size w w'))
                 case atStart => exact ⟨((-1)), (0), (by first | rfl | simp), (by first | rfl | simp), H', ⟨Nat.le_refl _⟩, ⟨by (try simp only [hl5_1]); (try simp only [hl5_2]); (try simp only [hl5_3]); exact HO_5.out⟩, ⟨by (try simp only [hl5_1]); (try simp only [hl5_2]); (try simp only [hl5_3]); (with_reducible repeat (first | apply Kd.S_alloc | apply Kd.S_drewN | apply Kd.S_drew)); exact HO_7.out⟩, ⟨by (try simp only [hl5_1]); (try simp only [hl5_2]); (try simp only [hl5_3]); (with_reducible repeat (first | refine blk_drewN ?_ _ | refine blk_drew ?_ | refine blk_alloc ?_ _)); exact BK101.out⟩, ⟨by repeat (first | (with_reducible first | exact HB.out | apply below_alloc | apply pw_below_drewN | apply below_drew1 | refine below_set ?_ GE101.out) | exact HB.out)⟩⟩
                 case round =>
                  clear H'
                  try clear c1
                  try clear p1
                  try clear q1
                  try clear hx1
                  try clear p2
                  try clear c3
                  try clear c4
                  try clear c5
                  try clear p6
                  try clear c7
                  try clear c11
                  try clear p11
                  try clear q11
                  try clear hx11
                  try clear c39
                  try clear c39b0
                  try clear c40
                  try clear c40b0
                  try clear c42
                  try clear c43
                  try clear c45
                  try clear c45b0
                  try clear c47
                  try clear c51
                  try clear c51b0
                  try clear c51b1
                  try clear c52
                  try clear c53
                  try clear c54
                  try clear c55
                  try clear c56
                  try clear c56b0
                  try clear c58
                  try clear c59
                  try clear p64
                  try clear c77
                  try clear c77b0
                  try clear c78
                  try clear c78b0
                  try clear hx118_0
                  try clear hx119_0
                  try clear p118
                  try clear p119
                  try clear q118
                  try clear q119
                  obtain ⟨x14_4, x16_4, rfl, rfl, HA, HK4, HO_5, HO_7, BK101, HB⟩ := hrel
                  cases gk with
                  | zero => exact absurd HA.out (by simp [spec_ShortestRound.l5])
                  | succ k4 =>
                   have H := HA.out
                   clear HA
                   simp only [spec_ShortestRound.l5] at H
                   by_cases c79 : x16_4 < a0_0
                   ·
                    rw [if_pos c79] at H
                    have c79b0 : decide (x16_4 < a0_0) = true := decide_eq_true c79
                    clear c79
                    obtain ⟨ji80, hji80⟩ : ∃ j_ : Int, (wrap64 ((wrap64 ((wrap64 ((ji38) - 1)) * a0_0)) + x16_4)) = j_ := ⟨_, rfl⟩
                    replace H : (if 0 ≤ (ji80) then (if (ji80) < (x5_3.length : Int) then (if (rd x5_3 (ji80)) ≥ 0 then (if x14_4 < 0 then (if 0 ≤ x16_4 then (if x16_4 < (x7_2.length : Int) then (if 0 < ((rd_L1 x7_2 x16_4).length : Int) then (spec_ShortestRound.l5 k4 a0_0 x5_3 x7_2 (wrap64 ((rd x5_3 (ji80)) + (rd (rd_L1 x7_2 x16_4) 0))) (wrap64 ((wrap64 ((ji38) - 1)) * a0_0)) (wrap64 (x16_4 + 1))) else (none)) else (none)) else (none)) else (if 0 ≤ x16_4 then (if x16_4 < (x7_2.length : Int) then (if 0 < ((rd_L1 x7_2 x16_4).length : Int) then (if (wrap64 ((rd x5_3 (ji80)) + (rd (rd_L1 x7_2 x16_4) 0))) < x14_4 then (spec_ShortestRound.l5 k4 a0_0 x5_3 x7_2 (wrap64 ((rd x5_3 (ji80)) + (rd (rd_L1 x7_2 x16_4) 0))) (wrap64 ((wrap64 ((ji38) - 1)) * a0_0)) (wrap64 (x16_4 + 1))) else (spec_ShortestRound.l5 k4 a0_0 x5_3 x7_2 x14_4 (wrap64 ((wrap64 ((ji38) - 1)) * a0_0)) (wrap64 (x16_4 + 1)))) else (none)) else (none)) else (none))) else (spec_ShortestRound.l5 k4 a0_0 x5_3 x7_2 x14_4 (wrap64 ((wrap64 ((ji38) - 1)) * a0_0)) (wrap64 (x16_4 + 1)))) else (none)) else (none)) = some (r1, r2) := by first | (rw [hji80] at H; exact H) | (simp only [hji80] at H ⊢; exact H)
                    have hji80w : (IntKind.i64.wrap ((wrap64 ((wrap64 ((ji38) - 1)) * a0_0)) + x16_4)) = ji80 := (i64_w _).trans hji80
                    by_cases c81 : 0 ≤ (ji80)
                    ·
                     rw [if_pos c81] at H
                     have c81b0 : decide (0 ≤ (ji80)) = true := decide_eq_true c81
                     clear c81
                     by_cases c82 : (ji80) < (x5_3.length : Int)
                     ·
                      rw [if_pos c82] at H
                      have c82b0 : decide ((ji80) < (x5_3.length : Int)) = true := decide_eq_true c82
                      clear c82
                      by_cases c83 : (rd x5_3 (ji80)) ≥ 0
                      ·
                       rw [if_pos c83] at H
                       have c83b0 : decide (0 ≤ (rd x5_3 (ji80))) = true := decide_eq_true c83
                       clear c83
                       by_cases c84 : x14_4 < 0
                       ·
                        rw [if_pos c84] at H
                        have c84b0 : decide (x14_4 < 0) = true := decide_eq_true c84
                        clear c84
                        by_cases c85 : 0 ≤ x16_4
                        ·
                         rw [if_pos c85] at H
                         have c85b0 : decide (0 ≤ x16_4) = true := decide_eq_true c85
                         clear c85
                         by_cases c86 : x16_4 < (x7_2.length : Int)
                         ·
                          rw [if_pos c86] at H
                          have c86b0 : decide (x16_4 < (x7_2.length : Int)) = true := decide_eq_true c86
                          clear c86
                          by_cases c87 : 0 < ((rd_L1 x7_2 x16_4).length : Int)
                          ·
                           rw [if_pos c87] at H
                           have c87b0 : decide (0 < ((rd_L1 x7_2 x16_4).length : Int)) = true := decide_eq_true c87
                           have c87b1 : decide (0 < (rd_L1 x7_2 x16_4).length) = true := decide_eq_true (by omega)
                           clear c87
                           have H' := Aside0.mk H
                           clear H
                           have p130 : 0 ≤ ((ji80) : Int) := of_decide_eq_true (by assumption)
                           have q130 : (ji80) < (x5_3.length : Int) := of_decide_eq_true (by assumption)
                           obtain ⟨ad130, e130, hx130_0⟩ := Kd.at_int (Kd.R_reads' HO_5.out).2.2 (ji80) p130 q130
                           obtain rfl : (⟨go24, 0, none⟩ : Addr) = ad130 := (by injection e130)
                           (first | simp only [add_plain] at hx130_0 | simp only [add_at] at hx130_0 | simp only [Addr.add, Nat.zero_add] at hx130_0 | skip)
                           replace p130 := eq_true p130
                           replace q130 := eq_true q130
                           obtain ⟨Ao88, co88, eo88⟩ := Kd.S_slice HO_7.out
                           subst eo88
                           have p131 : 0 ≤ (x16_4 : Int) := of_decide_eq_true (by assumption)
                           have q131 : x16_4 < (x7_2.length : Int) := of_decide_eq_true (by assumption)
                           obtain ⟨ad131, A131_0, c131_0, e131, hx131_0, hl131_0, hi131_0⟩ := at_L1 (Kd.S_reads' HO_7.out).2.2 x16_4 p131 q131
                           cases e131
                           obtain ⟨ce131, hce131, hMe131, hcc131⟩ := Kd.S_get HO_7.out [] x16_4 p131 (by first | exact q131 | exact of_decide_eq_true (by assumption) | (have e_ := (Kd.S_reads' HO_7.out).1; omega))
                           obtain ⟨ve131_0, rfl, ge131_0⟩ := hMe131
                           have hv131_0 := hcc131 0 _ rfl
                           rw [Nat.add_zero, show ((Kd.slice 2 (Kd.int .i64))).sz = 1 from rfl, Nat.mul_one] at hv131_0
                           replace hv131_0 := Option.some.inj (hv131_0.symm.trans hx131_0)
                           rw [hv131_0] at ge131_0
                           have HL131_0 := Aside0.mk (show Kd.R (Kd.int .i64) 2 _ _ _ _ (rd_L1 x7_2 x16_4) from ge131_0)
                           clear hv131_0 ge131_0
                           clear hcc131 hce131
                           have HR131_0 := Aside0.mk hi131_0
                           have HC131_0 := Aside0.mk hl131_0
                           clear hi131_0 hl131_0
                           replace p131 := eq_true p131
                           replace q131 := eq_true q131
                           have p132 : 0 ≤ (0 : Int) := (by omega)
                           have q132 : 0 < ((rd_L1 x7_2 x16_4).length : Int) := of_decide_eq_true (by assumption)
                           obtain ⟨ad132, e132, hx132_0⟩ := Kd.at_int (by repeat (first | (with_reducible exact HR131_0.out) | (with_reducible refine Kd.C_alloc ?_ _) | (with_reducible refine Kd.C_drewN ?_ _) | (with_reducible refine Kd.C_drew ?_) | exact HR131_0.out)) 0 p132 q132
                           cases e132
                           have qi132 : (0 < (rd_L1 x7_2 x16_4).length) = True := eq_true (by omega)
                           (try rw [show ((0 : Int)).toNat = 0 from rfl] at hx132_0)
                           (try rw [Addr.add_zero'] at hx132_0)
                           replace p132 := eq_true p132
                           replace q132 := eq_true q132
                           go_wp2
                           go_roundg k4
                           case measure => have := HK1.out; have := HK2.out; have := HK3.out; have := HK4.out; omega
                           case rel => exact ⟨(wrap64 ((rd x5_3 (ji80)) + (rd (rd_L1 x7_2 x16_4) 0))), (wrap64 (x16_4 + 1)), (by first | rfl | (simp; done) | (simp only [← hji80] <;> (first | rfl | simp)) | (simp [*]; done)), (by first | rfl | simp), H', ⟨by have := HK1.out; have := HK2.out; have := HK3.out; have := HK4.out; omega⟩, ⟨by (try simp only [hl5_1]); (try simp only [hl5_2]); (try simp only [hl5_3]); exact HO_5.out⟩, ⟨by (try simp only [hl5_1]); (try simp only [hl5_2]); (try simp only [hl5_3]); (with_reducible repeat (first | apply Kd.S_alloc | apply Kd.S_drewN | apply Kd.S_drew)); exact HO_7.out⟩, ⟨by (try simp only [hl5_1]); (try simp only [hl5_2]); (try simp only [hl5_3]); (with_reducible repeat (first | refine blk_drewN ?_ _ | refine blk_drew ?_ | refine blk_alloc ?_ _)); exact BK101.out⟩, ⟨by repeat (first | (with_reducible first | exact HB.out | apply below_alloc | apply pw_below_drewN | apply below_drew1 | refine below_set ?_ GE101.out) | exact HB.out)⟩⟩
                          ·
                           rw [if_neg c87] at H
                           exact absurd H (by simp)
                         ·
                          rw [if_neg c86] at H
                          exact absurd H (by simp)
                        ·
                         rw [if_neg c85] at H
                         exact absurd H (by simp)
                       ·
                        rw [if_neg c84] at H
                        have c84b0 : decide (x14_4 < 0) = false := decide_eq_false c84
                        clear c84
                        by_cases c89 : 0 ≤ x16_4
                        ·
                         rw [if_pos c89] at H
                         have c89b0 : decide (0 ≤ x16_4) = true := decide_eq_true c89
                         clear c89
                         by_cases c90 : x16_4 < (x7_2.length : Int)
                         ·
                          rw [if_pos c90] at H
                          have c90b0 : decide (x16_4 < (x7_2.length : Int)) = true := decide_eq_true c90
                          clear c90
                          by_cases c91 : 0 < ((rd_L1 x7_2 x16_4).length : Int)
                          ·
                           rw [if_pos c91] at H
                           have c91b0 : decide (0 < ((rd_L1 x7_2 x16_4).length : Int)) = true := decide_eq_true c91
                           have c91b1 : decide (0 < (rd_L1 x7_2 x16_4).length) = true := decide_eq_true (by omega)
                           clear c91
                           by_cases c92 : (wrap64 ((rd x5_3 (ji80)) + (rd (rd_L1 x7_2 x16_4) 0))) < x14_4
                           ·
                            rw [if_pos c92] at H
                            have c92b0 : decide ((wrap64 ((rd x5_3 (ji80)) + (rd (rd_L1 x7_2 x16_4) 0))) < x14_4) = true := decide_eq_true c92
                            clear c92
                            have H' := Aside0.mk H
                            clear H
                            have p130 : 0 ≤ ((ji80) : Int) := of_decide_eq_true (by assumption)
                            have q130 : (ji80) < (x5_3.length : Int) := of_decide_eq_true (by assumption)
                            obtain ⟨ad130, e130, hx130_0⟩ := Kd.at_int (Kd.R_reads' HO_5.out).2.2 (ji80) p130 q130
                            obtain rfl : (⟨go24, 0, none⟩ : Addr) = ad130 := (by injection e130)
                            (first | simp only [add_plain] at hx130_0 | simp only [add_at] at hx130_0 | simp only [Addr.add, Nat.zero_add] at hx130_0 | skip)
                            replace p130 := eq_true p130
                            replace q130 := eq_true q130
                            obtain ⟨Ao93, co93, eo93⟩ := Kd.S_slice HO_7.out
                            subst eo93
                            have p133 : 0 ≤ (x16_4 : Int) := of_decide_eq_true (by assumption)
                            have q133 : x16_4 < (x7_2.length : Int) := of_decide_eq_true (by assumption)
                            obtain ⟨ad133, A133_0, c133_0, e133, hx133_0, hl133_0, hi133_0⟩ := at_L1 (Kd.S_reads' HO_7.out).2.2 x16_4 p133 q133
                            cases e133
                            obtain ⟨ce133, hce133, hMe133, hcc133⟩ := Kd.S_get HO_7.out [] x16_4 p133 (by first | exact q133 | exact of_decide_eq_true (by assumption) | (have e_ := (Kd.S_reads' HO_7.out).1; omega))
                            obtain ⟨ve133_0, rfl, ge133_0⟩ := hMe133
                            have hv133_0 := hcc133 0 _ rfl
                            rw [Nat.add_zero, show ((Kd.slice 2 (Kd.int .i64))).sz = 1 from rfl, Nat.mul_one] at hv133_0
                            replace hv133_0 := Option.some.inj (hv133_0.symm.trans hx133_0)
                            rw [hv133_0] at ge133_0
                            have HL133_0 := Aside0.mk (show Kd.R (Kd.int .i64) 2 _ _ _ _ (rd_L1 x7_2 x16_4) from ge133_0)
                            clear hv133_0 ge133_0
                            clear hcc133 hce133
                            have HR133_0 := Aside0.mk hi133_0
                            have HC133_0 := Aside0.mk hl133_0
                            clear hi133_0 hl133_0
                            replace p133 := eq_true p133
                            replace q133 := eq_true q133
                            have p134 : 0 ≤ (0 : Int) := (by omega)
                            have q134 : 0 < ((rd_L1 x7_2 x16_4).length : Int) := of_decide_eq_true (by assumption)
                            obtain ⟨ad134, e134, hx134_0⟩ := Kd.at_int (by repeat (first | (with_reducible exact HR133_0.out) | (with_reducible refine Kd.C_alloc ?_ _) | (with_reducible refine Kd.C_drewN ?_ _) | (with_reducible refine Kd.C_drew ?_) | exact HR133_0.out)) 0 p134 q134
                            cases e134
                            have qi134 : (0 < (rd_L1 x7_2 x16_4).length) = True := eq_true (by omega)
                            (try rw [show ((0 : Int)).toNat = 0 from rfl] at hx134_0)
                            (try rw [Addr.add_zero'] at hx134_0)
                            replace p134 := eq_true p134
                            replace q134 := eq_true q134
                            have p135 : 0 ≤ (x16_4 : Int) := of_decide_eq_true (by assumption)
                            have q135 : x16_4 < (x7_2.length : Int) := of_decide_eq_true (by assumption)
                            obtain ⟨ad135, A135_0, c135_0, e135, hx135_0, hl135_0, hi135_0⟩ := at_L1 (Kd.S_reads' HO_7.out).2.2 x16_4 p135 q135
                            obtain rfl : ad133 = ad135 := (by injection e135)
                            obtain ⟨ce135, hce135, hMe135, hcc135⟩ := Kd.S_get HO_7.out [] x16_4 p135 (by first | exact q135 | exact of_decide_eq_true (by assumption) | (have e_ := (Kd.S_reads' HO_7.out).1; omega))
                            obtain ⟨ve135_0, rfl, ge135_0⟩ := hMe135
                            have hv135_0 := hcc135 0 _ rfl
                            rw [Nat.add_zero, show ((Kd.slice 2 (Kd.int .i64))).sz = 1 from rfl, Nat.mul_one] at hv135_0
                            replace hv135_0 := Option.some.inj (hv135_0.symm.trans hx135_0)
                            rw [hv135_0] at ge135_0
                            have HL135_0 := Aside0.mk (show Kd.R (Kd.int .i64) 2 _ _ _ _ (rd_L1 x7_2 x16_4) from ge135_0)
                            clear hv135_0 ge135_0
                            clear hcc135 hce135
                            have HR135_0 := Aside0.mk hi135_0
                            have HC135_0 := Aside0.mk hl135_0
                            clear hi135_0 hl135_0
                            replace p135 := eq_true p135
                            replace q135 := eq_true q135
                            have ea_ := Option.some.inj (hx133_0.symm.trans hx135_0)
                            injection ea_ with ea_ en_ ec_
                            subst ea_
                            subst ec_
                            clear en_
                            have p136 : 0 ≤ (0 : Int) := (by omega)
                            have q136 : 0 < ((rd_L1 x7_2 x16_4).length : Int) := of_decide_eq_true (by assumption)
                            obtain ⟨ad136, e136, hx136_0⟩ := Kd.at_int (by repeat (first | (with_reducible exact HR135_0.out) | (with_reducible refine Kd.C_alloc ?_ _) | (with_reducible refine Kd.C_drewN ?_ _) | (with_reducible refine Kd.C_drew ?_) | exact HR135_0.out)) 0 p136 q136
                            cases e136
                            have qi136 : (0 < (rd_L1 x7_2 x16_4).length) = True := eq_true (by omega)
                            (try rw [show ((0 : Int)).toNat = 0 from rfl] at hx136_0)
                            (try rw [Addr.add_zero'] at hx136_0)
                            replace p136 := eq_true p136
                            replace q136 := eq_true q136
                            go_wp2
                            go_roundg k4
                            case measure => have := HK1.out; have := HK2.out; have := HK3.out; have := HK4.out; omega
                            case rel => exact ⟨(wrap64 ((rd x5_3 (ji80)) + (rd (rd_L1 x7_2 x16_4) 0))), (wrap64 (x16_4 + 1)), (by first | rfl | (simp; done) | (simp only [← hji80] <;> (first | rfl | simp)) | (simp [*]; done)), (by first | rfl | simp), H', ⟨by have := HK1.out; have := HK2.out; have := HK3.out; have := HK4.out; omega⟩, ⟨by (try simp only [hl5_1]); (try simp only [hl5_2]); (try simp only [hl5_3]); exact HO_5.out⟩, ⟨by (try simp only [hl5_1]); (try simp only [hl5_2]); (try simp only [hl5_3]); (with_reducible repeat (first | apply Kd.S_alloc | apply Kd.S_drewN | apply Kd.S_drew)); exact HO_7.out⟩, ⟨by (try simp only [hl5_1]); (try simp only [hl5_2]); (try simp only [hl5_3]); (with_reducible repeat (first | refine blk_drewN ?_ _ | refine blk_drew ?_ | refine blk_alloc ?_ _)); exact BK101.out⟩, ⟨by repeat (first | (with_reducible first | exact HB.out | apply below_alloc | apply pw_below_drewN | apply below_drew1 | refine below_set ?_ GE101.out) | exact HB.out)⟩⟩
                           ·
                            rw [if_neg c92] at H
                            have c92b0 : decide ((wrap64 ((rd x5_3 (ji80)) + (rd (rd_L1 x7_2 x16_4) 0))) < x14_4) = false := decide_eq_false c92
                            clear c92
                            have H' := Aside0.mk H
                            clear H
                            have p130 : 0 ≤ ((ji80) : Int) := of_decide_eq_true (by assumption)
                            have q130 : (ji80) < (x5_3.length : Int) := of_decide_eq_true (by assumption)
                            obtain ⟨ad130, e130, hx130_0⟩ := Kd.at_int (Kd.R_reads' HO_5.out).2.2 (ji80) p130 q130
                            obtain rfl : (⟨go24, 0, none⟩ : Addr) = ad130 := (by injection e130)
                            (first | simp only [add_plain] at hx130_0 | simp only [add_at] at hx130_0 | simp only [Addr.add, Nat.zero_add] at hx130_0 | skip)
                            replace p130 := eq_true p130
                            replace q130 := eq_true q130
                            obtain ⟨Ao94, co94, eo94⟩ := Kd.S_slice HO_7.out
                            subst eo94
                            have p133 : 0 ≤ (x16_4 : Int) := of_decide_eq_true (by assumption)
                            have q133 : x16_4 < (x7_2.length : Int) := of_decide_eq_true (by assumption)
                            obtain ⟨ad133, A133_0, c133_0, e133, hx133_0, hl133_0, hi133_0⟩ := at_L1 (Kd.S_reads' HO_7.out).2.2 x16_4 p133 q133
                            cases e133
                            obtain ⟨ce133, hce133, hMe133, hcc133⟩ := Kd.S_get HO_7.out [] x16_4 p133 (by first | exact q133 | exact of_decide_eq_true (by assumption) | (have e_ := (Kd.S_reads' HO_7.out).1; omega))
                            obtain ⟨ve133_0, rfl, ge133_0⟩ := hMe133
                            have hv133_0 := hcc133 0 _ rfl
                            rw [Nat.add_zero, show ((Kd.slice 2 (Kd.int .i64))).sz = 1 from rfl, Nat.mul_one] at hv133_0
                            replace hv133_0 := Option.some.inj (hv133_0.symm.trans hx133_0)
                            rw [hv133_0] at ge133_0
                            have HL133_0 := Aside0.mk (show Kd.R (Kd.int .i64) 2 _ _ _ _ (rd_L1 x7_2 x16_4) from ge133_0)
                            clear hv133_0 ge133_0
                            clear hcc133 hce133
                            have HR133_0 := Aside0.mk hi133_0
                            have HC133_0 := Aside0.mk hl133_0
                            clear hi133_0 hl133_0
                            replace p133 := eq_true p133
                            replace q133 := eq_true q133
                            have p134 : 0 ≤ (0 : Int) := (by omega)
                            have q134 : 0 < ((rd_L1 x7_2 x16_4).length : Int) := of_decide_eq_true (by assumption)
                            obtain ⟨ad134, e134, hx134_0⟩ := Kd.at_int (by repeat (first | (with_reducible exact HR133_0.out) | (with_reducible refine Kd.C_alloc ?_ _) | (with_reducible refine Kd.C_drewN ?_ _) | (with_reducible refine Kd.C_drew ?_) | exact HR133_0.out)) 0 p134 q134
                            cases e134
                            have qi134 : (0 < (rd_L1 x7_2 x16_4).length) = True := eq_true (by omega)
                            (try rw [show ((0 : Int)).toNat = 0 from rfl] at hx134_0)
                            (try rw [Addr.add_zero'] at hx134_0)
                            replace p134 := eq_true p134
                            replace q134 := eq_true q134
                            go_wp2
                            go_roundg k4
                            case measure => have := HK1.out; have := HK2.out; have := HK3.out; have := HK4.out; omega
                            case rel => exact ⟨(x14_4), (wrap64 (x16_4 + 1)), (by first | rfl | simp), (by first | rfl | simp), H', ⟨by have := HK1.out; have := HK2.out; have := HK3.out; have := HK4.out; omega⟩, ⟨by (try simp only [hl5_1]); (try simp only [hl5_2]); (try simp only [hl5_3]); exact HO_5.out⟩, ⟨by (try simp only [hl5_1]); (try simp only [hl5_2]); (try simp only [hl5_3]); (with_reducible repeat (first | apply Kd.S_alloc | apply Kd.S_drewN | apply Kd.S_drew)); exact HO_7.out⟩, ⟨by (try simp only [hl5_1]); (try simp only [hl5_2]); (try simp only [hl5_3]); (with_reducible repeat (first | refine blk_drewN ?_ _ | refine blk_drew ?_ | refine blk_alloc ?_ _)); exact BK101.out⟩, ⟨by repeat (first | (with_reducible first | exact HB.out | apply below_alloc | apply pw_below_drewN | apply below_drew1 | refine below_set ?_ GE101.out) | exact HB.out)⟩⟩
                          ·
                           rw [if_neg c91] at H
                           exact absurd H (by simp)
                         ·
                          rw [if_neg c90] at H
                          exact absurd H (by simp)
                        ·
                         rw [if_neg c89] at H
                         exact absurd H (by simp)
                      ·
                       rw [if_neg c83] at H
                       have c83b0 : decide (0 ≤ (rd x5_3 (ji80))) = false := decide_eq_false c83
                       clear c83
                       have H' := Aside0.mk H
                       clear H
                       have p130 : 0 ≤ ((ji80) : Int) := of_decide_eq_true (by assumption)
                       have q130 : (ji80) < (x5_3.length : Int) := of_decide_eq_true (by assumption)
                       obtain ⟨ad130, e130, hx130_0⟩ := Kd.at_int (Kd.R_reads' HO_5.out).2.2 (ji80) p130 q130
                       obtain rfl : (⟨go24, 0, none⟩ : Addr) = ad130 := (by injection e130)
                       (first | simp only [add_plain] at hx130_0 | simp only [add_at] at hx130_0 | simp only [Addr.add, Nat.zero_add] at hx130_0 | skip)
                       replace p130 := eq_true p130
                       replace q130 := eq_true q130
                       go_wp2
                       go_roundg k4
                       case measure => have := HK1.out; have := HK2.out; have := HK3.out; have := HK4.out; omega
                       case rel => exact ⟨(x14_4), (wrap64 (x16_4 + 1)), (by first | rfl | simp), (by first | rfl | simp), H', ⟨by have := HK1.out; have := HK2.out; have := HK3.out; have := HK4.out; omega⟩, ⟨by (try simp only [hl5_1]); (try simp only [hl5_2]); (try simp only [hl5_3]); exact HO_5.out⟩, ⟨by (try simp only [hl5_1]); (try simp only [hl5_2]); (try simp only [hl5_3]); (with_reducible repeat (first | apply Kd.S_alloc | apply Kd.S_drewN | apply Kd.S_drew)); exact HO_7.out⟩, ⟨by (try simp only [hl5_1]); (try simp only [hl5_2]); (try simp only [hl5_3]); (with_reducible repeat (first | refine blk_drewN ?_ _ | refine blk_drew ?_ | refine blk_alloc ?_ _)); exact BK101.out⟩, ⟨by repeat (first | (with_reducible first | exact HB.out | apply below_alloc | apply pw_below_drewN | apply below_drew1 | refine below_set ?_ GE101.out) | exact HB.out)⟩⟩
                     ·
                      rw [if_neg c82] at H
                      exact absurd H (by simp)
                    ·
                     rw [if_neg c81] at H
                     exact absurd H (by simp)
                   ·
                    rw [if_neg c79] at H
                    have c79b0 : decide (x16_4 < a0_0) = false := decide_eq_false c79
                    clear c79
                    by_cases c95 : x14_4 < 0
                    ·
                     rw [if_pos c95] at H
                     have c95b0 : decide (x14_4 < 0) = true := decide_eq_true c95
                     clear c95
                     simp only [Option.some.injEq, Prod.mk.injEq] at H
                     obtain ⟨rfl, rfl⟩ := H
                     go_wp2
                     go_ret2
                     exact ⟨by first | rfl | (simp [errW_none, errW_some] <;> rfl) | (simp only [← hji4, ← hji6, ← hji36, ← hji38]; first | rfl | (simp [errW_none, errW_some] <;> rfl)) | (simp [*, errW_none, errW_some] <;> rfl), by repeat (first | (with_reducible first | exact HB.out | apply below_alloc | apply pw_below_drewN | apply below_drew1 | refine below_set ?_ GE101.out) | exact HB.out)⟩
                    ·
                     rw [if_neg c95] at H
                     have c95b0 : decide (x14_4 < 0) = false := decide_eq_false c95
                     clear c95
                     simp only [Option.some.injEq, Prod.mk.injEq] at H
                     obtain ⟨rfl, rfl⟩ := H
                     go_wp2
                     go_ret2
                     exact ⟨by first | rfl | (simp [errW_none, errW_some] <;> rfl) | (simp only [← hji4, ← hji6, ← hji36, ← hji38]; first | rfl | (simp [errW_none, errW_some] <;> rfl)) | (simp [*, errW_none, errW_some] <;> rfl), by repeat (first | (with_reducible first | exact HB.out | apply below_alloc | apply pw_below_drewN | apply below_drew1 | refine below_set ?_ GE101.out) | exact HB.out)⟩
               ·
                rw [if_neg c37] at H
                exact absurd H (by simp)
         ·
          rw [if_neg c23] at H
          exact absurd H (by simp)
        ·
         rw [if_neg c22] at H
         exact absurd H (by simp)
    ·
     rw [if_neg c8] at H
     exact absurd H (by simp)
   ·
    rw [if_neg c7] at H
    exact absurd H (by simp)
  ·
   rw [if_neg c5] at H
   exact absurd H (by simp)
 ·
  replace c3 := Bool.eq_false_iff.mpr c3
  subst c3
  have H1 : (some (0, 1)) = some (r1, r2) := by rw [if_neg (show ¬ (false = true) by decide)] at H; exact H
  clear H
  have H := H1
  clear H1
  simp only [Option.some.injEq, Prod.mk.injEq] at H
  obtain ⟨rfl, rfl⟩ := H
  go_enter Try.func4, Try.ntmps4
  go_wp2_with (first | ((with_reducible refine gate_dst (N := 1) rfl ?_); refine box_event ?hg (N := 1) ?hd (cs := #[.int .i64 a0_0, .int .i64 a0_1]) (t := 26) ?hr ?_; (case hd => rfl); (case hg => rfl); (case hr => first | (go_simp; done) | (go_simp; rfl)); intro gb101 hg w96 hbox hb; have n0_ := Aside0.mk (below_step (by repeat (first | exact HB.out | apply below_alloc | apply pw_below_drewN | apply below_drew1)) hb); have n1_ := Aside0.mk (hbox); have n2_ := Aside0.mk ((by rw [hg]; exact (below_size (by repeat (first | exact HB.out | apply below_alloc | apply pw_below_drewN | apply below_drew1))) : w.heap.size ≤ gb101)); have n3_ := Aside0.mk ((by rw [hg]; exact (below_size (by repeat (first | exact HB.out | apply below_alloc | apply pw_below_drewN | apply below_drew1))) : w.heap.size ≤ gb101)); clear HB; have HB := n0_; have BK101 := n1_; have GW101 := n2_; have GE101 := n3_; clear n0_ n1_ n2_ n3_; clear hb hbox hg; have hcz97_0 : w96.cell? ⟨gb101, 0, none⟩ = some (.int .i64 a0_0) := (blk_cell BK101.out 0).trans rfl; have hcz97_1 : w96.cell? ⟨gb101, 1, none⟩ = some (.int .i64 a0_1) := (blk_cell BK101.out 1).trans rfl; have hfz97_0 := blk_frozen BK101.out 0; have hfz97_1 := blk_frozen BK101.out 1) | ((with_reducible refine gate_callee (f := 7) rfl ?_); refine goesL_ (some 19) rfl rfl Try.func7 (by kernel_rfl) rfl #[.agg #[.int .i64 a0_0, .int .i64 a0_1]] rfl (by (try simp only [List.map_toArray, List.map_cons, List.map_nil]); first | done | rfl | (simp only [List.length_drop, List.length_take]; rfl)) ?_; (with_reducible refine (spec_l09Is.calls a0_0 a0_1 false _ A2.out).mono ?_); rintro e w98 ⟨rfl, hb⟩; refine ⟨_, rfl, ?_⟩; have n0_ := Aside0.mk (blk_below (g := gb101) (o := .cells #[.int .i64 a0_0, .int .i64 a0_1] 26 (0, 0)) (by (with_reducible repeat (first | refine blk_drewN ?_ _ | refine blk_drew ?_ | refine blk_alloc ?_ _)); exact BK101.out) hb); have n1_ := Aside0.mk (below_step (by repeat (first | (with_reducible first | exact HB.out | apply below_alloc | apply pw_below_drewN | apply below_drew1 | refine below_set ?_ GE101.out) | exact HB.out)) hb); clear BK101; clear HB; have BK101 := n0_; have HB := n1_; clear n0_ n1_; (try clear hb); (try clear hb2); (try clear hk); (try clear hi)))
  go_ret2
  exact ⟨by first | rfl | (simp [errW_none, errW_some] <;> rfl) | (simp [*, errW_none, errW_some] <;> rfl), by repeat (first | (with_reducible first | exact HB.out | apply below_alloc | apply pw_below_drewN | apply below_drew1 | refine below_set ?_ GE101.out) | exact HB.out)⟩
end Go.Proofs.Ythafpimegaomlaa.P
end
section
namespace Go.Proofs.Ythafpimegaomlaa.P
open Go.RowKit Go.Proofs.YthafpimegaomlaaW.PrintWords Go.Proofs.YthafpimegaomlaaW.PrintLast Go.Proofs.YthafpimegaomlaaW.PrintMore
attribute [local go_sem] max2_int min2_int max_two min_two max_three min_three max_four min_four   -- for this text's walks alone
set_option linter.unusedVariables false
set_option linter.unusedSimpArgs false
end Go.Proofs.Ythafpimegaomlaa.P
end
