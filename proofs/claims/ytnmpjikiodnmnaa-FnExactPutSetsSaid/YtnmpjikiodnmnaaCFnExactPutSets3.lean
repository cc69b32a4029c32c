/- The program's PutSets returns what the reference's returns, for all sets; no condition beside. -/
import Derived.Test.YtnmpjikiodnmnaaCFnExactPutSets2
section
namespace Go.Proofs.Ytnmpjikiodnmnaa.P
open Go.RowKit Go.Proofs.YtnmpjikiodnmnaaW.PrintWords Go.Proofs.YtnmpjikiodnmnaaW.PrintLast Go.Proofs.YtnmpjikiodnmnaaW.PrintMore
attribute [local go_sem] max2_int min2_int max_two min_two max_three min_three max_four min_four   -- for this text's walks alone
set_option linter.unusedVariables false
set_option linter.unusedSimpArgs false
set_option maxHeartbeats 8000000 in
set_option maxRecDepth 100000 in
theorem spec_PutSets.calls (k : Nat) (a0 : Int) (a1 : Int) (A2 : Option Addr) (c2 : Nat) (l2 : List Int) (r1 : List (List Int)) (r2 : Int) (w : World) (hr2 : Kd.C (Kd.int .i64) w A2 l2.length l2) (hc2 : l2.length ≤ c2) (h : spec_PutSets.f k a0 a1 l2 = some (r1, r2)) :
    Calls Try.prog 5 #[.int .i64 a0, .int .i64 a1, .slice A2 l2.length c2] w fun e w' => ∃ v0_ : Value, e = .returned (.tuple #[v0_, .int .i64 r2]) ∧ Kd.S (Kd.slice 2 (Kd.int .i64)) 22 w' w.heap.size (fun _ => True) v0_ r1 ∧ Below w.heap.size w w' := by
  have HR2 := Aside0.mk hr2
  have HC2 := Aside0.mk hc2
  clear hr2 hc2
  have HB := Aside0.mk (Below.refl w.heap.size w)
  have H : ((spec_l01In.f a0 1 8).bind fun t101 => (if t101 = true then ((spec_l01In.f a1 1 4).bind fun t102 => (if t102 = true then (if (l2.length : Int) < 1 then (spec_PutSets.j0 k a0 a1 l2 true) else (spec_PutSets.j0 k a0 a1 l2 (decide ((l2.length : Int) > 120)))) else (spec_PutSets.j0 k a0 a1 l2 true))) else (spec_PutSets.j0 k a0 a1 l2 true))) = some (r1, r2) := h
  clear h
  have HC4 := Aside0.mk H
  clear H
  go_enter Try.func5, Try.ntmps5
  go_upto_region 1 with (fail)
  go_cut [37] (fun v37 wc => ∃ (kq : Nat) (x37_3 : Bool), v37 = .bool x37_3 ∧ Aside0 (spec_PutSets.j0 kq a0 a1 l2 x37_3 = some (r1, r2)) ∧ Aside0 (kq ≤ k) ∧ Aside0 (Below w.heap.size w wc))
  case first =>
    have H := HC4.out
    clear HC4
    replace H := Option.bind_eq_some_iff.mp H
    obtain ⟨t101, A50, H⟩ := H
    replace H : (if t101 = true then ((spec_l01In.f a1 1 4).bind fun t102 => (if t102 = true then (if (l2.length : Int) < 1 then (spec_PutSets.j0 k a0 a1 l2 true) else (spec_PutSets.j0 k a0 a1 l2 (decide ((l2.length : Int) > 120)))) else (spec_PutSets.j0 k a0 a1 l2 true))) else (spec_PutSets.j0 k a0 a1 l2 true)) = some (r1, r2) := H
    have A5 := Aside0.mk A50
    clear A50
    by_cases c6 : t101 = true
    · subst c6
      have H1 : ((spec_l01In.f a1 1 4).bind fun t102 => (if t102 = true then (if (l2.length : Int) < 1 then (spec_PutSets.j0 k a0 a1 l2 true) else (spec_PutSets.j0 k a0 a1 l2 (decide ((l2.length : Int) > 120)))) else (spec_PutSets.j0 k a0 a1 l2 true))) = some (r1, r2) := by rw [if_pos rfl] at H; exact H
      clear H
      have H := H1
      clear H1
      replace H := Option.bind_eq_some_iff.mp H
      obtain ⟨t102, A70, H⟩ := H
      replace H : (if t102 = true then (if (l2.length : Int) < 1 then (spec_PutSets.j0 k a0 a1 l2 true) else (spec_PutSets.j0 k a0 a1 l2 (decide ((l2.length : Int) > 120)))) else (spec_PutSets.j0 k a0 a1 l2 true)) = some (r1, r2) := H
      have A7 := Aside0.mk A70
      clear A70
      by_cases c8 : t102 = true
      · subst c8
        have H1 : (if (l2.length : Int) < 1 then (spec_PutSets.j0 k a0 a1 l2 true) else (spec_PutSets.j0 k a0 a1 l2 (decide ((l2.length : Int) > 120)))) = some (r1, r2) := by rw [if_pos rfl] at H; exact H
        clear H
        have H := H1
        clear H1
        by_cases c9 : (l2.length : Int) < 1
        · rw [if_pos c9] at H
          have c9b0 : decide ((l2.length : Int) < 1) = true := decide_eq_true c9
          have c9b1 : decide (l2.length < 1) = true := decide_eq_true (by omega)
          clear c9
          (first | rw [c9b0] | (simp only [i64_w, i32_w]; rw [c9b0]) | skip)
          have H' := Aside0.mk H
          clear H
          go_wp2_with (first | ((with_reducible refine gate_callee (f := 22) rfl ?_); refine goesL_ (some 21) rfl rfl Try.func22 (by kernel_rfl) rfl #[.int .i64 a0, .int .i64 1, .int .i64 8] rfl (by (try simp only [List.map_toArray, List.map_cons, List.map_nil]); first | done | rfl | (simp only [List.length_drop, List.length_take]; rfl)) ?_; (with_reducible refine (spec_l01In.calls a0 1 8 true _ A5.out).mono ?_); rintro e w' ⟨rfl, ⟨nd, rfl⟩⟩; refine ⟨_, rfl, ?_⟩) | (go_at_call 22; (with_reducible refine (spec_l01In.calls a1 1 4 true _ A7.out).mono ?_); rintro e w' ⟨rfl, ⟨nd, rfl⟩⟩))
          go_meet
          case rel => exact ⟨_, (true), (by first | rfl | (simp; done) | (simp [*]; done)), H', ⟨by first | omega | exact Nat.le_refl _⟩, ⟨by repeat (first | (with_reducible first | exact HB.out | apply below_alloc | apply pw_below_drewN | apply below_drew1) | exact HB.out)⟩⟩
        · rw [if_neg c9] at H
          have c9b0 : decide ((l2.length : Int) < 1) = false := decide_eq_false c9
          have c9b1 : decide (l2.length < 1) = false := decide_eq_false (by omega)
          clear c9
          (first | rw [c9b0] | (simp only [i64_w, i32_w]; rw [c9b0]) | skip)
          have H' := Aside0.mk H
          clear H
          go_wp2_with (first | ((with_reducible refine gate_callee (f := 22) rfl ?_); refine goesL_ (some 21) rfl rfl Try.func22 (by kernel_rfl) rfl #[.int .i64 a0, .int .i64 1, .int .i64 8] rfl (by (try simp only [List.map_toArray, List.map_cons, List.map_nil]); first | done | rfl | (simp only [List.length_drop, List.length_take]; rfl)) ?_; (with_reducible refine (spec_l01In.calls a0 1 8 true _ A5.out).mono ?_); rintro e w' ⟨rfl, ⟨nd, rfl⟩⟩; refine ⟨_, rfl, ?_⟩) | (go_at_call 22; (with_reducible refine (spec_l01In.calls a1 1 4 true _ A7.out).mono ?_); rintro e w' ⟨rfl, ⟨nd, rfl⟩⟩))
          go_meet
          case rel => exact ⟨_, (decide ((l2.length : Int) > 120)), (by first | rfl | (simp; done) | (simp [*]; done)), H', ⟨by first | omega | exact Nat.le_refl _⟩, ⟨by repeat (first | (with_reducible first | exact HB.out | apply below_alloc | apply pw_below_drewN | apply below_drew1) | exact HB.out)⟩⟩
      · replace c8 := Bool.eq_false_iff.mpr c8
        subst c8
        have H1 : (spec_PutSets.j0 k a0 a1 l2 true) = some (r1, r2) := by rw [if_neg (show ¬ (false = true) by decide)] at H; exact H
        clear H
        have H := H1
        clear H1
        have H' := Aside0.mk H
        clear H
        go_wp2_with (first | ((with_reducible refine gate_callee (f := 22) rfl ?_); refine goesL_ (some 21) rfl rfl Try.func22 (by kernel_rfl) rfl #[.int .i64 a0, .int .i64 1, .int .i64 8] rfl (by (try simp only [List.map_toArray, List.map_cons, List.map_nil]); first | done | rfl | (simp only [List.length_drop, List.length_take]; rfl)) ?_; (with_reducible refine (spec_l01In.calls a0 1 8 true _ A5.out).mono ?_); rintro e w' ⟨rfl, ⟨nd, rfl⟩⟩; refine ⟨_, rfl, ?_⟩) | (go_at_call 22; (with_reducible refine (spec_l01In.calls a1 1 4 false _ A7.out).mono ?_); rintro e w' ⟨rfl, ⟨nd, rfl⟩⟩))
        go_meet
        case rel => exact ⟨_, (true), (by first | rfl | (simp; done) | (simp [*]; done)), H', ⟨by first | omega | exact Nat.le_refl _⟩, ⟨by repeat (first | (with_reducible first | exact HB.out | apply below_alloc | apply pw_below_drewN | apply below_drew1) | exact HB.out)⟩⟩
    · replace c6 := Bool.eq_false_iff.mpr c6
      subst c6
      have H1 : (spec_PutSets.j0 k a0 a1 l2 true) = some (r1, r2) := by rw [if_neg (show ¬ (false = true) by decide)] at H; exact H
      clear H
      have H := H1
      clear H1
      have H' := Aside0.mk H
      clear H
      go_wp2_with (first | ((with_reducible refine gate_callee (f := 22) rfl ?_); refine goesL_ (some 21) rfl rfl Try.func22 (by kernel_rfl) rfl #[.int .i64 a0, .int .i64 1, .int .i64 8] rfl (by (try simp only [List.map_toArray, List.map_cons, List.map_nil]); first | done | rfl | (simp only [List.length_drop, List.length_take]; rfl)) ?_; (with_reducible refine (spec_l01In.calls a0 1 8 false _ A5.out).mono ?_); rintro e w' ⟨rfl, ⟨nd, rfl⟩⟩; refine ⟨_, rfl, ?_⟩))
      go_meet
      case rel => exact ⟨_, (true), (by first | rfl | (simp; done) | (simp [*]; done)), H', ⟨by first | omega | exact Nat.le_refl _⟩, ⟨by repeat (first | (with_reducible first | exact HB.out | apply below_alloc | apply pw_below_drewN | apply below_drew1) | exact HB.out)⟩⟩
  case rest =>
    clear HC4
    try clear c2
    try clear p2
    try clear c5
    try clear c6
    try clear c8
    try clear c9
    try clear c9b0
    try clear c9b1
    obtain ⟨kq, x37_3, rfl, HA, HJ3, HB⟩ := hcut
    cases kq with
    | zero => exact absurd HA.out (by simp [spec_PutSets.j0])
    | succ kj3 =>
      have H := HA.out
      clear HA
      simp only [spec_PutSets.j0] at H
      by_cases c10 : x37_3 = true
      · subst c10
        have H1 : (some (([] : List (List Int)), 2)) = some (r1, r2) := by rw [if_pos rfl] at H; exact H
        clear H
        have H := H1
        clear H1
        simp only [Option.some.injEq, Prod.mk.injEq] at H
        obtain ⟨rfl, rfl⟩ := H
        go_wp2
        go_ret2
        exact ⟨_, by first | rfl | (simp [errW_none, errW_some] <;> rfl) | (simp [*, errW_none, errW_some] <;> rfl), by first | exact Kd.S_nil _ _ _ _ _ | exact Kd.N_nil _ _ _ _ _ | exact Kd.V_nil _ _ _ _ _ | exact Kd.Q_nil _ _ _ _ _ | exact Kd.R_nil _ _ _ _ _, by repeat (first | (with_reducible first | exact HB.out | apply below_alloc | apply pw_below_drewN | apply below_drew1) | exact HB.out)⟩
      · replace c10 := Bool.eq_false_iff.mpr c10
        subst c10
        have H1 : (spec_PutSets.l0 kj3 a0 a1 l2 0) = some (r1, r2) := by rw [if_neg (show ¬ (false = true) by decide)] at H; exact H
        clear H
        have H := H1
        clear H1
        have H' := Aside0.mk H
        clear H
        go_wp2
        go_loopg [8] kj3 (fun kq v8 w' => ∃ (x8_2 : Int), v8 = .int .i64 x8_2 ∧ Aside0 (spec_PutSets.l0 kq a0 a1 l2 x8_2 = some (r1, r2)) ∧ Aside0 (kq ≤ kj3) ∧ Aside0 (Below w.heap.size w w'))
        case atStart => exact ⟨(0), (by first | rfl | (simp; done) | (simp [*]; done)), H', ⟨Nat.le_refl _⟩, ⟨by repeat (first | (with_reducible first | exact HB.out | apply below_alloc | apply pw_below_drewN | apply below_drew1) | exact HB.out)⟩⟩
        case round =>
          clear H'
          try clear c1
          try clear c2
          try clear p2
          try clear c5
          try clear c6
          try clear c8
          try clear c9
          try clear c9b0
          try clear c9b1
          try clear c10
          try clear p2
          obtain ⟨x8_2, rfl, HA, HK2, HB⟩ := hrel
          cases gk with
          | zero => exact absurd HA.out (by simp [spec_PutSets.l0])
          | succ k2 =>
            have H := HA.out
            clear HA
            simp only [spec_PutSets.l0] at H
            by_cases c11 : x8_2 < (l2.length : Int)
            · rw [if_pos c11] at H
              have c11b0 : decide (x8_2 < (l2.length : Int)) = true := decide_eq_true c11
              clear c11
              by_cases c12 : 0 ≤ x8_2
              · rw [if_pos c12] at H
                have c12b0 : decide (0 ≤ x8_2) = true := decide_eq_true c12
                clear c12
                obtain ⟨ji13, hji13⟩ : ∃ j_ : Int, (IntKind.u64.wrap (a0)) = j_ := ⟨_, rfl⟩
                replace H : (if 0 ≤ (ji13) then ((spec_l01In.f (rd l2 x8_2) 0 (wrap64 ((shl .i64 1 (ji13)) - 1))).bind fun t104 => (if t104 = true then ((spec_l08Size.f k2 (rd l2 x8_2)).bind fun t106 => (if t106 > a1 then (some (([] : List (List Int)), 2)) else (spec_PutSets.l0 k2 a0 a1 l2 (wrap64 (x8_2 + 1))))) else (some (([] : List (List Int)), 2)))) else (none)) = some (r1, r2) := by first | (rw [hji13] at H; exact H) | (simp only [hji13] at H ⊢; exact H)
                by_cases c14 : 0 ≤ (ji13)
                · rw [if_pos c14] at H
                  have c14b0 := eq_true c14
                  have c14b1 : decide (0 ≤ (ji13)) = true := decide_eq_true c14
                  clear c14
                  obtain ⟨ji15, hji15⟩ : ∃ j_ : Int, (shl .i64 1 (ji13)) = j_ := ⟨_, rfl⟩
                  replace H : ((spec_l01In.f (rd l2 x8_2) 0 (wrap64 ((ji15) - 1))).bind fun t104 => (if t104 = true then ((spec_l08Size.f k2 (rd l2 x8_2)).bind fun t106 => (if t106 > a1 then (some (([] : List (List Int)), 2)) else (spec_PutSets.l0 k2 a0 a1 l2 (wrap64 (x8_2 + 1))))) else (some (([] : List (List Int)), 2)))) = some (r1, r2) := by first | (rw [hji15] at H; exact H) | (simp only [hji15] at H ⊢; exact H)
                  have hji15_ : (IntKind.i64.wrap (1 * 2 ^ min (ji13).toNat 64)) = ji15 := hji15
                  have hji15z : (ji13) ≤ 64 → (IntKind.i64.wrap (1 * 2 ^ (ji13).toNat)) = ji15 := shl_small hji15
                  have hji15u : (IntKind.i64.wrap (2 ^ min (ji13).toNat 64)) = ji15 := by have h_ := hji15_; rw [Int.one_mul] at h_; exact h_
                  have hji15v : (ji13) ≤ 64 → (IntKind.i64.wrap (2 ^ (ji13).toNat)) = ji15 := fun hle_ => by have h_ := hji15z hle_; rw [Int.one_mul] at h_; exact h_
                  have hji15y : (wrap64 (1 * 2 ^ min (ji13).toNat 64)) = ji15 := (i64_w _).symm.trans hji15_
                  have hji15x : (ji13) ≤ 64 → (wrap64 (1 * 2 ^ (ji13).toNat)) = ji15 := fun h_ => (i64_w _).symm.trans (hji15z h_)
                  replace H := Option.bind_eq_some_iff.mp H
                  obtain ⟨t104, A160, H⟩ := H
                  replace H : (if t104 = true then ((spec_l08Size.f k2 (rd l2 x8_2)).bind fun t106 => (if t106 > a1 then (some (([] : List (List Int)), 2)) else (spec_PutSets.l0 k2 a0 a1 l2 (wrap64 (x8_2 + 1))))) else (some (([] : List (List Int)), 2))) = some (r1, r2) := H
                  have A16 := Aside0.mk A160
                  clear A160
                  by_cases c17 : t104 = true
                  · subst c17
                    have H1 : ((spec_l08Size.f k2 (rd l2 x8_2)).bind fun t106 => (if t106 > a1 then (some (([] : List (List Int)), 2)) else (spec_PutSets.l0 k2 a0 a1 l2 (wrap64 (x8_2 + 1))))) = some (r1, r2) := by rw [if_pos rfl] at H; exact H
                    clear H
                    have H := H1
                    clear H1
                    replace H := Option.bind_eq_some_iff.mp H
                    obtain ⟨t106, A180, H⟩ := H
                    replace H : (if t106 > a1 then (some (([] : List (List Int)), 2)) else (spec_PutSets.l0 k2 a0 a1 l2 (wrap64 (x8_2 + 1)))) = some (r1, r2) := H
                    have A18 := Aside0.mk A180
                    clear A180
                    by_cases c19 : t106 > a1
                    · rw [if_pos c19] at H
                      have c19b0 : decide (a1 < t106) = true := decide_eq_true c19
                      clear c19
                      simp only [Option.some.injEq, Prod.mk.injEq] at H
                      obtain ⟨rfl, rfl⟩ := H
                      have p103 : 0 ≤ (x8_2 : Int) := of_decide_eq_true (by first | (with_reducible assumption) | assumption)
                      have q103 : x8_2 < (l2.length : Int) := of_decide_eq_true (by first | (with_reducible assumption) | assumption)
                      obtain ⟨ad103, e103, hx103_0⟩ := Kd.at_int HR2.out x8_2 p103 q103
                      cases e103
                      replace hx103_0 := (HB.out.cell (World.block_lt_of_cell? w _ hx103_0)).trans hx103_0
                      replace p103 := eq_true p103
                      replace q103 := eq_true q103
                      go_wp2_with (first | ((with_reducible refine gate_callee (f := 22) rfl ?_); refine goesL_ (some 52) rfl rfl Try.func22 (by kernel_rfl) rfl #[.int .i64 (rd l2 x8_2), .int .i64 0, .int .i64 (wrap64 ((ji15) - 1))] rfl (by (try simp only [List.map_toArray, List.map_cons, List.map_nil]); first | done | (simp only [hji15]; rfl) | rfl | (simp only [List.length_drop, List.length_take]; rfl)) ?_; (with_reducible refine (spec_l01In.calls (rd l2 x8_2) 0 (wrap64 ((ji15) - 1)) true _ A16.out).mono ?_); rintro e w' ⟨rfl, ⟨nd, rfl⟩⟩; refine ⟨_, rfl, ?_⟩; have p105 : 0 ≤ (x8_2 : Int) := of_decide_eq_true (by first | (with_reducible assumption) | assumption); have q105 : x8_2 < (l2.length : Int) := of_decide_eq_true (by first | (with_reducible assumption) | assumption); obtain ⟨ad105, e105, hx105_0⟩ := Kd.at_int HR2.out x8_2 p105 q105; obtain rfl : ad103 = ad105 := (by injection e105); replace hx105_0 := (HB.out.cell (World.block_lt_of_cell? w _ hx105_0)).trans hx105_0; replace p105 := eq_true p105; replace q105 := eq_true q105) | (go_at_call 23; (with_reducible refine (spec_l08Size.calls k2 (rd l2 x8_2) t106 _ A18.out).mono ?_); rintro e w' ⟨rfl, ⟨nd, rfl⟩⟩))
                      go_ret2
                      exact ⟨_, by first | rfl | (simp [errW_none, errW_some] <;> rfl) | (simp only [← hji13, ← hji15]; first | rfl | (simp [errW_none, errW_some] <;> rfl)) | (simp [*, errW_none, errW_some] <;> rfl), by first | exact Kd.S_nil _ _ _ _ _ | exact Kd.N_nil _ _ _ _ _ | exact Kd.V_nil _ _ _ _ _ | exact Kd.Q_nil _ _ _ _ _ | exact Kd.R_nil _ _ _ _ _, by repeat (first | (with_reducible first | exact HB.out | apply below_alloc | apply pw_below_drewN | apply below_drew1) | exact HB.out)⟩
                    · rw [if_neg c19] at H
                      have c19b0 : decide (a1 < t106) = false := decide_eq_false c19
                      clear c19
                      have H' := Aside0.mk H
                      clear H
                      have p103 : 0 ≤ (x8_2 : Int) := of_decide_eq_true (by first | (with_reducible assumption) | assumption)
                      have q103 : x8_2 < (l2.length : Int) := of_decide_eq_true (by first | (with_reducible assumption) | assumption)
                      obtain ⟨ad103, e103, hx103_0⟩ := Kd.at_int HR2.out x8_2 p103 q103
                      cases e103
                      replace hx103_0 := (HB.out.cell (World.block_lt_of_cell? w _ hx103_0)).trans hx103_0
                      replace p103 := eq_true p103
                      replace q103 := eq_true q103
                      go_wp2_with (first | ((with_reducible refine gate_callee (f := 22) rfl ?_); refine goesL_ (some 52) rfl rfl Try.func22 (by kernel_rfl) rfl #[.int .i64 (rd l2 x8_2), .int .i64 0, .int .i64 (wrap64 ((ji15) - 1))] rfl (by (try simp only [List.map_toArray, List.map_cons, List.map_nil]); first | done | (simp only [hji15]; rfl) | rfl | (simp only [List.length_drop, List.length_take]; rfl)) ?_; (with_reducible refine (spec_l01In.calls (rd l2 x8_2) 0 (wrap64 ((ji15) - 1)) true _ A16.out).mono ?_); rintro e w' ⟨rfl, ⟨nd, rfl⟩⟩; refine ⟨_, rfl, ?_⟩; have p105 : 0 ≤ (x8_2 : Int) := of_decide_eq_true (by first | (with_reducible assumption) | assumption); have q105 : x8_2 < (l2.length : Int) := of_decide_eq_true (by first | (with_reducible assumption) | assumption); obtain ⟨ad105, e105, hx105_0⟩ := Kd.at_int HR2.out x8_2 p105 q105; obtain rfl : ad103 = ad105 := (by injection e105); replace hx105_0 := (HB.out.cell (World.block_lt_of_cell? w _ hx105_0)).trans hx105_0; replace p105 := eq_true p105; replace q105 := eq_true q105) | (go_at_call 23; (with_reducible refine (spec_l08Size.calls k2 (rd l2 x8_2) t106 _ A18.out).mono ?_); rintro e w' ⟨rfl, ⟨nd, rfl⟩⟩))
                      go_roundg k2
                      case measure => have := HJ3.out; have := HK2.out; omega
                      case rel => exact ⟨(wrap64 (x8_2 + 1)), (by first | rfl | (simp; done) | (simp [*]; done)), H', ⟨by have := HJ3.out; have := HK2.out; omega⟩, ⟨by repeat (first | (with_reducible first | exact HB.out | apply below_alloc | apply pw_below_drewN | apply below_drew1) | exact HB.out)⟩⟩
                  · replace c17 := Bool.eq_false_iff.mpr c17
                    subst c17
                    have H1 : (some (([] : List (List Int)), 2)) = some (r1, r2) := by rw [if_neg (show ¬ (false = true) by decide)] at H; exact H
                    clear H
                    have H := H1
                    clear H1
                    simp only [Option.some.injEq, Prod.mk.injEq] at H
                    obtain ⟨rfl, rfl⟩ := H
                    have p103 : 0 ≤ (x8_2 : Int) := of_decide_eq_true (by first | (with_reducible assumption) | assumption)
                    have q103 : x8_2 < (l2.length : Int) := of_decide_eq_true (by first | (with_reducible assumption) | assumption)
                    obtain ⟨ad103, e103, hx103_0⟩ := Kd.at_int HR2.out x8_2 p103 q103
                    cases e103
                    replace hx103_0 := (HB.out.cell (World.block_lt_of_cell? w _ hx103_0)).trans hx103_0
                    replace p103 := eq_true p103
                    replace q103 := eq_true q103
                    go_wp2_with (first | ((with_reducible refine gate_callee (f := 22) rfl ?_); refine goesL_ (some 52) rfl rfl Try.func22 (by kernel_rfl) rfl #[.int .i64 (rd l2 x8_2), .int .i64 0, .int .i64 (wrap64 ((ji15) - 1))] rfl (by (try simp only [List.map_toArray, List.map_cons, List.map_nil]); first | done | (simp only [hji15]; rfl) | rfl | (simp only [List.length_drop, List.length_take]; rfl)) ?_; (with_reducible refine (spec_l01In.calls (rd l2 x8_2) 0 (wrap64 ((ji15) - 1)) false _ A16.out).mono ?_); rintro e w' ⟨rfl, ⟨nd, rfl⟩⟩; refine ⟨_, rfl, ?_⟩))
                    go_ret2
                    exact ⟨_, by first | rfl | (simp [errW_none, errW_some] <;> rfl) | (simp only [← hji13, ← hji15]; first | rfl | (simp [errW_none, errW_some] <;> rfl)) | (simp [*, errW_none, errW_some] <;> rfl), by first | exact Kd.S_nil _ _ _ _ _ | exact Kd.N_nil _ _ _ _ _ | exact Kd.V_nil _ _ _ _ _ | exact Kd.Q_nil _ _ _ _ _ | exact Kd.R_nil _ _ _ _ _, by repeat (first | (with_reducible first | exact HB.out | apply below_alloc | apply pw_below_drewN | apply below_drew1) | exact HB.out)⟩
                · rw [if_neg c14] at H
                  exact absurd H (by simp)
              · rw [if_neg c12] at H
                exact absurd H (by simp)
            · rw [if_neg c11] at H
              have c11b0 : decide (x8_2 < (l2.length : Int)) = false := decide_eq_false c11
              clear c11
              obtain ⟨y107, hy107⟩ : ∃ y_ : List (List Int), y_ = (([] : List (List Int))) := ⟨_, rfl⟩
              replace H : (spec_PutSets.l1 k2 a0 a1 l2 y107 (([] : List Int)) 0) = some (r1, r2) := by first | (rw [hy107]; with_reducible exact H) | (have H2_ := (Option.bind_some _ _).symm.trans H; rw [hy107]; with_reducible exact H2_) | (have H2_ := (Option.bind_some _ _).symm.trans H; with_reducible exact H2_) | with_reducible exact H | (rw [hy107]; exact H) | exact H
              have Ny107 := Aside0.mk hy107
              clear hy107
              obtain ⟨y110, hy110⟩ : ∃ y_ : List Int, y_ = (([] : List Int)) := ⟨_, rfl⟩
              replace H : (spec_PutSets.l1 k2 a0 a1 l2 y107 y110 0) = some (r1, r2) := by first | (rw [hy110]; with_reducible exact H) | (have H2_ := (Option.bind_some _ _).symm.trans H; rw [hy110]; with_reducible exact H2_) | (have H2_ := (Option.bind_some _ _).symm.trans H; with_reducible exact H2_) | with_reducible exact H | (rw [hy110]; exact H) | exact H
              have Ny110 := Aside0.mk hy110
              clear hy110
              have H' := Aside0.mk H
              clear H
              go_wp2_with (first | ((with_reducible refine gate_dst (N := 63) rfl ?_); (try (refine gate_guard (by rfl) ?_; dsimp only)); refine Kd.S_lit (Kd.slice 2 (Kd.int .i64)) _ 22 ?hg (N := 63) ?hd (xs := ([] : List (List Int))) (inner := []) (ok := fun _ => True) (okp := fun _ => True) ?hr ?hp (fun _ hk => hk) trivial (Below.refl _ _) (Nat.le_refl _) (by simp) ?_; (case hd => rfl); (case hg => rfl); (case hr => first | (go_simp; done) | (go_simp; rfl)); (case hp => exact (Reps.none _ _)); intro v108 w20 ho21 hb hg_ hnew_; clear hg_ hnew_; (first | rw [← Ny107.out] at ho21 | (simp only [Int.reduceToNat] at ho21; rw [← Ny107.out] at ho21)); have n0_ := Aside0.mk (Kd.S_lower ho21 (below_size (by repeat (first | (with_reducible first | exact HB.out | apply below_alloc | apply pw_below_drewN | apply below_drew1) | exact HB.out)))); have n1_ := Aside0.mk (below_step (by repeat (first | (with_reducible first | exact HB.out | apply below_alloc | apply pw_below_drewN | apply below_drew1) | exact HB.out)) hb); clear HB; have HO109 := n0_; have HB := n1_; clear n0_ n1_; clear hb ho21) | ((with_reducible refine gate_dst (N := 64) rfl ?_); (try (refine gate_guard (by rfl) ?_; dsimp only)); refine Kd.R_lit (Kd.int .i64) _ 2 ?hg (N := 64) ?hd (xs := ([] : List Int)) (inner := []) (ok := fun _ => True) (okp := fun _ => True) ?hr ?hp (fun _ hk => hk) trivial (Below.refl _ _) (Nat.le_refl _) (by simp) ?_; (case hd => rfl); (case hg => rfl); (case hr => first | (go_simp; done) | (go_simp; rfl)); (case hp => exact (Reps.none _ _)); intro v111 w22 ho23 hb hg_ hnew_; clear hg_ hnew_; (first | rw [← Ny110.out] at ho23 | (simp only [Int.reduceToNat] at ho23; rw [← Ny110.out] at ho23)); have n0_ := Aside0.mk (Kd.S_elder' (by (with_reducible repeat (first | apply Kd.S_alloc | apply Kd.S_drewN | apply Kd.S_drew)); exact HO109.out) (Kd.R_base ho23) hb); have n1_ := Aside0.mk (Kd.R_lower ho23 (below_size (by repeat (first | (with_reducible first | exact HB.out | apply below_alloc | apply pw_below_drewN | apply below_drew1) | exact HB.out)))); have n2_ := Aside0.mk (below_step (by repeat (first | (with_reducible first | exact HB.out | apply below_alloc | apply pw_below_drewN | apply below_drew1) | exact HB.out)) hb); clear HO109; clear HB; have HO109 := n0_; have HO112 := n1_; have HB := n2_; clear n0_ n1_ n2_; clear hb ho23))
              go_loopg [9, 11] k2 (fun kq v9 v11 w' => ∃ (x9_3 : List (List Int)) (x11_3 : Int), v11 = .int .i64 x11_3 ∧ Aside0 (spec_PutSets.l1 kq a0 a1 l2 x9_3 y110 x11_3 = some (r1, r2)) ∧ Aside0 (kq ≤ k2) ∧ Aside0 (Kd.S (Kd.slice 2 (Kd.int .i64)) 22 w' w.heap.size (fun k_ => some k_ ≠ (v111 : Value).ownBlock) v9 x9_3) ∧ Aside0 (Kd.R (Kd.int .i64) 2 w' w.heap.size (fun _ => True) v111 y110) ∧ Aside0 (Below w.heap.size w w'))
              case atStart => exact ⟨(y107), (0), (by first | rfl | (simp; done) | (simp [*]; done)), H', ⟨Nat.le_refl _⟩, ⟨by (with_reducible repeat (first | apply Kd.S_alloc | apply Kd.S_drewN | apply Kd.S_drew)); exact Kd.S_mono HO109.out (fun _ hk => hk.2)⟩, ⟨by (with_reducible repeat (first | apply Kd.R_alloc | apply Kd.R_drewN | apply Kd.R_drew)); exact HO112.out⟩, ⟨by repeat (first | (with_reducible first | exact HB.out | apply below_alloc | apply pw_below_drewN | apply below_drew1) | exact HB.out)⟩⟩
              case round =>
                clear H'
                try clear c1
                try clear p1
                try clear q1
                try clear hx1
                try clear c2
                try clear p2
                try clear c5
                try clear c6
                try clear p6
                try clear c8
                try clear c9
                try clear c9b0
                try clear c9b1
                try clear c10
                try clear p10
                try clear q10
                try clear hx10
                try clear c11
                try clear c11b0
                try clear c12
                try clear c12b0
                try clear c14
                try clear c14b0
                try clear c14b1
                try clear c17
                try clear c19
                try clear c19b0
                try clear c22
                try clear hx103_0
                try clear hx105_0
                try clear p103
                try clear p105
                try clear p2
                try clear q103
                try clear q105
                obtain ⟨x9_3, x11_3, rfl, HA, HK3, HO_9, HO_10, HB⟩ := hrel
                cases gk with
                | zero => exact absurd HA.out (by simp [spec_PutSets.l1])
                | succ k3 =>
                  have H := HA.out
                  clear HA
                  simp only [spec_PutSets.l1] at H
                  by_cases c24 : x11_3 < a1
                  · rw [if_pos c24] at H
                    have c24b0 : decide (x11_3 < a1) = true := decide_eq_true c24
                    clear c24
                    obtain ⟨y113, hy113⟩ : ∃ y_ : List Int, y_ = (([] : List Int)) := ⟨_, rfl⟩
                    replace H : (if x9_3.length < 5864062014805 then (spec_PutSets.l1 k3 a0 a1 l2 (x9_3 ++ [y113]) y110 (wrap64 (x11_3 + 1))) else (none)) = some (r1, r2) := by first | (rw [hy113]; with_reducible exact H) | (have H2_ := (Option.bind_some _ _).symm.trans H; rw [hy113]; with_reducible exact H2_) | (have H2_ := (Option.bind_some _ _).symm.trans H; with_reducible exact H2_) | with_reducible exact H | (rw [hy113]; exact H) | exact H
                    have Ny113 := Aside0.mk hy113
                    clear hy113
                    by_cases c25 : x9_3.length < 5864062014805
                    · rw [if_pos c25] at H
                      have LMc25 := Aside0.mk c25
                      clear c25
                      obtain ⟨y116, hy116⟩ : ∃ y_ : List (List Int), y_ = (x9_3 ++ [y113]) := ⟨_, rfl⟩
                      replace H : (spec_PutSets.l1 k3 a0 a1 l2 y116 y110 (wrap64 (x11_3 + 1))) = some (r1, r2) := by first | (rw [hy116]; with_reducible exact H) | (have H2_ := (Option.bind_some _ _).symm.trans H; rw [hy116]; with_reducible exact H2_) | (have H2_ := (Option.bind_some _ _).symm.trans H; with_reducible exact H2_) | with_reducible exact H | (rw [hy116]; exact H) | exact H
                      have Ny116 := Aside0.mk hy116
                      clear hy116
                      have H' := Aside0.mk H
                      clear H
                      go_wp2_with (first | ((with_reducible refine gate_dst (N := 71) rfl ?_); (try (refine gate_guard (by rfl) ?_; dsimp only)); refine Kd.R_lit (Kd.int .i64) _ 2 ?hg (N := 71) ?hd (xs := ([] : List Int)) (inner := []) (ok := fun _ => True) (okp := fun _ => True) ?hr ?hp (fun _ hk => hk) trivial (Below.refl _ _) (Nat.le_refl _) (by simp) ?_; (case hd => rfl); (case hg => rfl); (case hr => first | (go_simp; done) | (go_simp; rfl)); (case hp => exact (Reps.none _ _)); intro v114 w26 ho27 hb hg_ hnew_; clear hg_ hnew_; (first | rw [← Ny113.out] at ho27 | (simp only [Int.reduceToNat] at ho27; rw [← Ny113.out] at ho27)); have n0_ := Aside0.mk (Kd.S_elder' (by (with_reducible repeat (first | apply Kd.S_alloc | apply Kd.S_drewN | apply Kd.S_drew)); exact HO_9.out) (Kd.R_base ho27) hb); have n1_ := Aside0.mk (Kd.R_elder' (by (with_reducible repeat (first | apply Kd.R_alloc | apply Kd.R_drewN | apply Kd.R_drew)); exact HO_10.out) (Kd.R_base ho27) hb); have n2_ := Aside0.mk (Kd.R_lower (Kd.R_new' ho27 (Kd.R_lt (by (with_reducible repeat (first | apply Kd.R_alloc | apply Kd.R_drewN | apply Kd.R_drew)); exact HO_10.out))) (below_size (by repeat (first | (with_reducible first | exact HB.out | apply below_alloc | apply pw_below_drewN | apply below_drew1) | exact HB.out)))); have n3_ := Aside0.mk (below_step (by repeat (first | (with_reducible first | exact HB.out | apply below_alloc | apply pw_below_drewN | apply below_drew1) | exact HB.out)) hb); clear HO_9; clear HO_10; clear HB; have HO_9 := n0_; have HO_10 := n1_; have HO115 := n2_; have HB := n3_; clear n0_ n1_ n2_ n3_; clear hb ho27; obtain ⟨Ao29, co29, eo29⟩ := Kd.R_slice HO115.out; subst eo29) | ((with_reducible refine gate_builtin (b := .append) (xs := #[.tmp 70, .tmp 72]) rfl ?_); (try (refine gate_guard (by rfl) ?_; dsimp only)); at_builtin; refine Kd.S_append (Kd.slice 2 (Kd.int .i64)) (w0 := w) w.heap.size rfl (.tmp 70) (.tmp 72) 23 22 (.slice none 0 0) 24 rfl Try.underlying23 info22 rfl (by decide) (by omega) u9 x9_3 y113 [.slice Ao29 y113.length co29] (fun k_ => some k_ ≠ (v111 : Value).ownBlock) (fun k_ => some k_ = (.slice Ao29 y113.length co29 : Value).ownBlock) rfl rfl ?aP (fun k_ hk_ => ((Kd.R_mono (ok' := fun k_ => ((fun k_ => some k_ ≠ (v111 : Value).ownBlock)) k_ ∧ some k_ ≠ (u9 : Value).ownBlock) (Kd.R_apart' (HO115.out) (Kd.S_typed HO_9.out) (by decide)) (fun k_ hk => ⟨hk.1.2, hk.2⟩))).1 k_ hk_.symm) ?aF ?aO ?aB ?aS ?aL ?_; (case aP => exact Kd.M_row (Kd.R_mono (Kd.R_tight rfl (Kd.R_mono (ok' := fun k_ => ((fun k_ => some k_ ≠ (v111 : Value).ownBlock)) k_ ∧ some k_ ≠ (u9 : Value).ownBlock) (Kd.R_apart' (HO115.out) (Kd.S_typed HO_9.out) (by decide)) (fun k_ hk => ⟨hk.1.2, hk.2⟩))) (fun _ h_ => h_))); (case aB => exact (by repeat (first | (with_reducible first | exact HB.out | apply below_alloc | apply pw_below_drewN | apply below_drew1) | exact HB.out))); (case aF => exact (fun k_ hk => Kd.fresh' (Kd.R_lt (by (with_reducible repeat (first | apply Kd.R_alloc | apply Kd.R_drewN | apply Kd.R_drew)); exact HO_10.out)) k_ hk)); (case aO => exact (by (with_reducible repeat (first | apply Kd.S_alloc | apply Kd.S_drewN | apply Kd.S_drew)); exact Kd.S_mono HO_9.out (fun k_ hk => ⟨hk.1, fun e_ => hk.2 e_⟩))); (case aS => exact (below_size (by repeat (first | (with_reducible first | exact HB.out | apply below_alloc | apply pw_below_drewN | apply below_drew1) | exact HB.out)))); (case aL => have := LMc25.out; omega); intro v117 w28 ho hb hg hat; rw [← Ny116.out] at ho; have n0_ := Aside0.mk (Kd.R_over' (by (with_reducible repeat (first | apply Kd.R_alloc | apply Kd.R_drewN | apply Kd.R_drew)); exact HO_10.out) (Kd.S_typed (by (with_reducible repeat (first | apply Kd.S_alloc | apply Kd.S_drewN | apply Kd.S_drew)); exact HO_9.out)) (by decide) hg); have n1_ := Aside0.mk (hb); have n2_ := Aside0.mk (ho); clear HO_10; clear HB; clear HO_9; clear HO115; have HO_10 := n0_; have HB := n1_; have HO118 := n2_; clear n0_ n1_ n2_; clear ho hb hg hat))
                      go_roundg k3
                      case measure => have := HJ3.out; have := HK2.out; have := HK3.out; omega
                      case rel => exact ⟨(y116), (wrap64 (x11_3 + 1)), (by first | rfl | (simp; done) | (simp [*]; done)), H', ⟨by have := HJ3.out; have := HK2.out; have := HK3.out; omega⟩, ⟨by (with_reducible repeat (first | apply Kd.S_alloc | apply Kd.S_drewN | apply Kd.S_drew)); exact HO118.out⟩, ⟨by (with_reducible repeat (first | apply Kd.R_alloc | apply Kd.R_drewN | apply Kd.R_drew)); exact Kd.R_mono HO_10.out (fun _ hk => trivial)⟩, ⟨by repeat (first | (with_reducible first | exact HB.out | apply below_alloc | apply pw_below_drewN | apply below_drew1) | exact HB.out)⟩⟩
                    · rw [if_neg c25] at H
                      exact absurd H (by simp)
                  · rw [if_neg c24] at H
                    have c24b0 : decide (x11_3 < a1) = false := decide_eq_false c24
                    clear c24
                    have H' := Aside0.mk H
                    clear H
                    go_wp2
                    go_loopg [10, 12] k3 (fun kq v10 v12 w' => ∃ (x10_4 : List Int) (x12_4 : Int), v12 = .int .i64 x12_4 ∧ Aside0 (spec_PutSets.l2 kq a0 a1 l2 x9_3 x10_4 x12_4 = some (r1, r2)) ∧ Aside0 (kq ≤ k3) ∧ Aside0 (Kd.S (Kd.slice 2 (Kd.int .i64)) 22 w' w.heap.size (fun k_ => some k_ ≠ (v10 : Value).ownBlock) u9 x9_3) ∧ Aside0 (Kd.R (Kd.int .i64) 2 w' w.heap.size (fun _ => True) v10 x10_4) ∧ Aside0 (Below w.heap.size w w'))
                    case atStart => exact ⟨(y110), (0), (by first | rfl | (simp; done) | (simp [*]; done)), H', ⟨Nat.le_refl _⟩, ⟨by (with_reducible repeat (first | apply Kd.S_alloc | apply Kd.S_drewN | apply Kd.S_drew)); exact HO_9.out⟩, ⟨by (with_reducible repeat (first | apply Kd.R_alloc | apply Kd.R_drewN | apply Kd.R_drew)); exact HO_10.out⟩, ⟨by repeat (first | (with_reducible first | exact HB.out | apply below_alloc | apply pw_below_drewN | apply below_drew1) | exact HB.out)⟩⟩
                    case round =>
                      clear H'
                      try clear c1
                      try clear p1
                      try clear q1
                      try clear hx1
                      try clear c2
                      try clear p2
                      try clear c5
                      try clear c6
                      try clear p6
                      try clear c8
                      try clear c9
                      try clear c9b0
                      try clear c9b1
                      try clear c10
                      try clear p10
                      try clear q10
                      try clear hx10
                      try clear c11
                      try clear c11b0
                      try clear c12
                      try clear c12b0
                      try clear c14
                      try clear c14b0
                      try clear c14b1
                      try clear c17
                      try clear c19
                      try clear c19b0
                      try clear c22
                      try clear c24
                      try clear c24b0
                      try clear c25
                      try clear hx103_0
                      try clear hx105_0
                      try clear p1
                      try clear p10
                      try clear p103
                      try clear p105
                      try clear p2
                      try clear p6
                      try clear q1
                      try clear q10
                      try clear q103
                      try clear q105
                      obtain ⟨x10_4, x12_4, rfl, HA, HK4, HO_9, HO_10, HB⟩ := hrel
                      cases gk with
                      | zero => exact absurd HA.out (by simp [spec_PutSets.l2])
                      | succ k4 =>
                        have H := HA.out
                        clear HA
                        simp only [spec_PutSets.l2] at H
                        by_cases c30 : x12_4 < a0
                        · rw [if_pos c30] at H
                          have c30b0 : decide (x12_4 < a0) = true := decide_eq_true c30
                          clear c30
                          by_cases c31 : x10_4.length < 17592186044416
                          · rw [if_pos c31] at H
                            have LMc31 := Aside0.mk c31
                            clear c31
                            obtain ⟨y119, hy119⟩ : ∃ y_ : List Int, y_ = (x10_4 ++ [(-1)]) := ⟨_, rfl⟩
                            replace H : (spec_PutSets.l2 k4 a0 a1 l2 x9_3 y119 (wrap64 (x12_4 + 1))) = some (r1, r2) := by first | (rw [hy119]; with_reducible exact H) | (have H2_ := (Option.bind_some _ _).symm.trans H; rw [hy119]; with_reducible exact H2_) | (have H2_ := (Option.bind_some _ _).symm.trans H; with_reducible exact H2_) | with_reducible exact H | (rw [hy119]; exact H) | exact H
                            have Ny119 := Aside0.mk hy119
                            clear hy119
                            have H' := Aside0.mk H
                            clear H
                            go_wp2_with (first | ((with_reducible refine gate_builtin (b := .append) (xs := #[.tmp 79, .tmp 80]) rfl ?_); (try (refine gate_guard (by rfl) ?_; dsimp only)); at_builtin; refine Kd.R_append (Kd.int .i64) (w0 := w) w.heap.size rfl (.tmp 79) (.tmp 80) 22 2 (.int .i64 0) 8 rfl Try.underlying22 info2 rfl (by decide) (by omega) u10 x10_4 (-1) [.int .i64 (-1)] (fun _ => True) (fun _ => False) rfl rfl ?aP (fun _ hk => hk.elim) ?aF ?aO ?aB ?aS ?aL ?_; (case aP => exact rfl); (case aB => exact (by repeat (first | (with_reducible first | exact HB.out | apply below_alloc | apply pw_below_drewN | apply below_drew1) | exact HB.out))); (case aF => exact (fun _ _ => trivial)); (case aO => exact (by (with_reducible repeat (first | apply Kd.R_alloc | apply Kd.R_drewN | apply Kd.R_drew)); exact HO_10.out)); (case aS => exact (below_size (by repeat (first | (with_reducible first | exact HB.out | apply below_alloc | apply pw_below_drewN | apply below_drew1) | exact HB.out)))); (case aL => have := LMc31.out; omega); intro v120 w32 ho hb hg hat; rw [← Ny119.out] at ho; have n0_ := Aside0.mk (Kd.S_after (ok := (fun _ => True)) (by (with_reducible repeat (first | apply Kd.S_alloc | apply Kd.S_drewN | apply Kd.S_drew)); exact Kd.S_mono HO_9.out (fun _ hk => ⟨trivial, hk⟩)) hg hat); have n1_ := Aside0.mk (hb); have n2_ := Aside0.mk (ho); clear HO_9; clear HB; clear HO_10; have HO_9 := n0_; have HB := n1_; have HO121 := n2_; clear n0_ n1_ n2_; clear ho hb hg hat))
                            go_roundg k4
                            case measure => have := HJ3.out; have := HK2.out; have := HK3.out; have := HK4.out; omega
                            case rel => exact ⟨(y119), (wrap64 (x12_4 + 1)), (by first | rfl | (simp; done) | (simp [*]; done)), H', ⟨by have := HJ3.out; have := HK2.out; have := HK3.out; have := HK4.out; omega⟩, ⟨by (with_reducible repeat (first | apply Kd.S_alloc | apply Kd.S_drewN | apply Kd.S_drew)); exact Kd.S_mono HO_9.out (fun _ hk => hk.2)⟩, ⟨by (with_reducible repeat (first | apply Kd.R_alloc | apply Kd.R_drewN | apply Kd.R_drew)); exact HO121.out⟩, ⟨by repeat (first | (with_reducible first | exact HB.out | apply below_alloc | apply pw_below_drewN | apply below_drew1) | exact HB.out)⟩⟩
                          · rw [if_neg c31] at H
                            exact absurd H (by simp)
                        · rw [if_neg c30] at H
                          have c30b0 : decide (x12_4 < a0) = false := decide_eq_false c30
                          clear c30
                          have H' := Aside0.mk H
                          clear H
                          go_wp2
                          go_loopg [13] k4 (fun kq v13 w' => ∃ (x9_5 : List (List Int)) (x10_5 : List Int) (x13_5 : Int), v13 = .int .i64 x13_5 ∧ Aside0 (spec_PutSets.l3 kq a0 a1 l2 x9_5 x10_5 x13_5 = some (r1, r2)) ∧ Aside0 (kq ≤ k4) ∧ Aside0 (Kd.S (Kd.slice 2 (Kd.int .i64)) 22 w' w.heap.size (fun k_ => some k_ ≠ (u10 : Value).ownBlock) u9 x9_5) ∧ Aside0 (Kd.R (Kd.int .i64) 2 w' w.heap.size (fun _ => True) u10 x10_5) ∧ Aside0 (Below w.heap.size w w'))
                          case atStart => exact ⟨(x9_3), (x10_4), (0), (by first | rfl | (simp; done) | (simp [*]; done)), H', ⟨Nat.le_refl _⟩, ⟨by (with_reducible repeat (first | apply Kd.S_alloc | apply Kd.S_drewN | apply Kd.S_drew)); exact HO_9.out⟩, ⟨by (with_reducible repeat (first | apply Kd.R_alloc | apply Kd.R_drewN | apply Kd.R_drew)); exact HO_10.out⟩, ⟨by repeat (first | (with_reducible first | exact HB.out | apply below_alloc | apply pw_below_drewN | apply below_drew1) | exact HB.out)⟩⟩
                          case round =>
                            clear H'
                            try clear c1
                            try clear p1
                            try clear q1
                            try clear hx1
                            try clear c2
                            try clear p2
                            try clear c3
                            try clear c5
                            try clear c6
                            try clear p6
                            try clear c8
                            try clear c9
                            try clear c9b0
                            try clear c9b1
                            try clear c10
                            try clear p10
                            try clear q10
                            try clear hx10
                            try clear c11
                            try clear c11b0
                            try clear c12
                            try clear c12b0
                            try clear c14
                            try clear c14b0
                            try clear c14b1
                            try clear c17
                            try clear c19
                            try clear c19b0
                            try clear c22
                            try clear c24
                            try clear c24b0
                            try clear c25
                            try clear c30
                            try clear c30b0
                            try clear c31
                            try clear hx103_0
                            try clear hx105_0
                            try clear p1
                            try clear p10
                            try clear p103
                            try clear p105
                            try clear p2
                            try clear p6
                            try clear q1
                            try clear q10
                            try clear q103
                            try clear q105
                            obtain ⟨x9_5, x10_5, x13_5, rfl, HA, HK5, HO_9, HO_10, HB⟩ := hrel
                            cases gk with
                            | zero => exact absurd HA.out (by simp [spec_PutSets.l3])
                            | succ k5 =>
                              have H := HA.out
                              clear HA
                              simp only [spec_PutSets.l3] at H
                              by_cases c33 : x13_5 < (l2.length : Int)
                              · rw [if_pos c33] at H
                                have c33b0 : decide (x13_5 < (l2.length : Int)) = true := decide_eq_true c33
                                clear c33
                                obtain ⟨y122, hy122⟩ : ∃ y_ : List Int, y_ = (([] : List Int)) := ⟨_, rfl⟩
                                replace H : (spec_PutSets.l4 k5 a0 a1 l2 x9_5 x10_5 x13_5 y122 0) = some (r1, r2) := by first | (rw [hy122]; with_reducible exact H) | (have H2_ := (Option.bind_some _ _).symm.trans H; rw [hy122]; with_reducible exact H2_) | (have H2_ := (Option.bind_some _ _).symm.trans H; with_reducible exact H2_) | with_reducible exact H | (rw [hy122]; exact H) | exact H
                                have Ny122 := Aside0.mk hy122
                                clear hy122
                                have H' := Aside0.mk H
                                clear H
                                go_wp2_with (first | ((with_reducible refine gate_dst (N := 88) rfl ?_); (try (refine gate_guard (by rfl) ?_; dsimp only)); refine Kd.R_lit (Kd.int .i64) _ 2 ?hg (N := 88) ?hd (xs := ([] : List Int)) (inner := []) (ok := fun _ => True) (okp := fun _ => True) ?hr ?hp (fun _ hk => hk) trivial (Below.refl _ _) (Nat.le_refl _) (by simp) ?_; (case hd => rfl); (case hg => rfl); (case hr => first | (go_simp; done) | (go_simp; rfl)); (case hp => exact (Reps.none _ _)); intro v123 w34 ho35 hb hg_ hnew_; clear hg_ hnew_; (first | rw [← Ny122.out] at ho35 | (simp only [Int.reduceToNat] at ho35; rw [← Ny122.out] at ho35)); have n0_ := Aside0.mk (Kd.S_elder' (by (with_reducible repeat (first | apply Kd.S_alloc | apply Kd.S_drewN | apply Kd.S_drew)); exact HO_9.out) (Kd.R_base ho35) hb); have n1_ := Aside0.mk (Kd.R_elder' (by (with_reducible repeat (first | apply Kd.R_alloc | apply Kd.R_drewN | apply Kd.R_drew)); exact HO_10.out) (Kd.R_base ho35) hb); have n2_ := Aside0.mk (Kd.R_lower (Kd.R_new' ho35 (Kd.R_lt (by (with_reducible repeat (first | apply Kd.R_alloc | apply Kd.R_drewN | apply Kd.R_drew)); exact HO_10.out))) (below_size (by repeat (first | (with_reducible first | exact HB.out | apply below_alloc | apply pw_below_drewN | apply below_drew1) | exact HB.out)))); have n3_ := Aside0.mk (below_step (by repeat (first | (with_reducible first | exact HB.out | apply below_alloc | apply pw_below_drewN | apply below_drew1) | exact HB.out)) hb); clear HO_9; clear HO_10; clear HB; have HO_9 := n0_; have HO_10 := n1_; have HO124 := n2_; have HB := n3_; clear n0_ n1_ n2_ n3_; clear hb ho35))
                                go_loopg [14, 15] k5 (fun kq v14 v15 w' => ∃ (x14_6 : List Int) (x15_6 : Int), v15 = .int .i64 x15_6 ∧ Aside0 (spec_PutSets.l4 kq a0 a1 l2 x9_5 x10_5 x13_5 x14_6 x15_6 = some (r1, r2)) ∧ Aside0 (kq ≤ k5) ∧ Aside0 (Kd.S (Kd.slice 2 (Kd.int .i64)) 22 w' w.heap.size (fun k_ => some k_ ≠ (u10 : Value).ownBlock ∧ some k_ ≠ (v14 : Value).ownBlock) u9 x9_5) ∧ Aside0 (Kd.R (Kd.int .i64) 2 w' w.heap.size (fun k_ => some k_ ≠ (v14 : Value).ownBlock) u10 x10_5) ∧ Aside0 (Kd.R (Kd.int .i64) 2 w' w.heap.size (fun k_ => some k_ ≠ (u10 : Value).ownBlock) v14 x14_6) ∧ Aside0 (Below w.heap.size w w'))
                                case atStart => exact ⟨(y122), (0), (by first | rfl | (simp; done) | (simp [*]; done)), H', ⟨Nat.le_refl _⟩, ⟨by (with_reducible repeat (first | apply Kd.S_alloc | apply Kd.S_drewN | apply Kd.S_drew)); exact HO_9.out⟩, ⟨by (with_reducible repeat (first | apply Kd.R_alloc | apply Kd.R_drewN | apply Kd.R_drew)); exact Kd.R_mono HO_10.out (fun _ hk => hk.2)⟩, ⟨by (with_reducible repeat (first | apply Kd.R_alloc | apply Kd.R_drewN | apply Kd.R_drew)); exact Kd.R_mono HO124.out (fun _ hk => hk.2)⟩, ⟨by repeat (first | (with_reducible first | exact HB.out | apply below_alloc | apply pw_below_drewN | apply below_drew1) | exact HB.out)⟩⟩
                                case round =>
                                  clear H'
                                  try clear c1
                                  try clear p1
                                  try clear q1
                                  try clear hx1
                                  try clear c2
                                  try clear p2
                                  try clear c3
                                  try clear c5
                                  try clear c6
                                  try clear p6
                                  try clear c8
                                  try clear c9
                                  try clear c9b0
                                  try clear c9b1
                                  try clear c10
                                  try clear p10
                                  try clear q10
                                  try clear hx10
                                  try clear c11
                                  try clear c11b0
                                  try clear c12
                                  try clear c12b0
                                  try clear c14
                                  try clear c14b0
                                  try clear c14b1
                                  try clear c17
                                  try clear c19
                                  try clear c19b0
                                  try clear c22
                                  try clear c24
                                  try clear c24b0
                                  try clear c25
                                  try clear c30
                                  try clear c30b0
                                  try clear c31
                                  try clear c33
                                  try clear c33b0
                                  try clear hx103_0
                                  try clear hx105_0
                                  try clear p1
                                  try clear p10
                                  try clear p103
                                  try clear p105
                                  try clear p2
                                  try clear p6
                                  try clear q1
                                  try clear q10
                                  try clear q103
                                  try clear q105
                                  obtain ⟨x14_6, x15_6, rfl, HA, HK6, HO_9, HO_10, HO_14, HB⟩ := hrel
                                  cases gk with
                                  | zero => exact absurd HA.out (by simp [spec_PutSets.l4])
                                  | succ k6 =>
                                    have H := HA.out
                                    clear HA
                                    simp only [spec_PutSets.l4] at H
                                    by_cases c36 : x15_6 < a1
                                    · rw [if_pos c36] at H
                                      have c36b0 : decide (x15_6 < a1) = true := decide_eq_true c36
                                      clear c36
                                      by_cases c37 : x14_6.length < 17592186044416
                                      · rw [if_pos c37] at H
                                        have LMc37 := Aside0.mk c37
                                        clear c37
                                        obtain ⟨y125, hy125⟩ : ∃ y_ : List Int, y_ = (x14_6 ++ [(-1)]) := ⟨_, rfl⟩
                                        replace H : (spec_PutSets.l4 k6 a0 a1 l2 x9_5 x10_5 x13_5 y125 (wrap64 (x15_6 + 1))) = some (r1, r2) := by first | (rw [hy125]; with_reducible exact H) | (have H2_ := (Option.bind_some _ _).symm.trans H; rw [hy125]; with_reducible exact H2_) | (have H2_ := (Option.bind_some _ _).symm.trans H; with_reducible exact H2_) | with_reducible exact H | (rw [hy125]; exact H) | exact H
                                        have Ny125 := Aside0.mk hy125
                                        clear hy125
                                        have H' := Aside0.mk H
                                        clear H
                                        go_wp2_with (first | ((with_reducible refine gate_builtin (b := .append) (xs := #[.tmp 94, .tmp 95]) rfl ?_); (try (refine gate_guard (by rfl) ?_; dsimp only)); at_builtin; refine Kd.R_append (Kd.int .i64) (w0 := w) w.heap.size rfl (.tmp 94) (.tmp 95) 22 2 (.int .i64 0) 8 rfl Try.underlying22 info2 rfl (by decide) (by omega) u14 x14_6 (-1) [.int .i64 (-1)] (fun k_ => some k_ ≠ (u10 : Value).ownBlock) (fun _ => False) rfl rfl ?aP (fun _ hk => hk.elim) ?aF ?aO ?aB ?aS ?aL ?_; (case aP => exact rfl); (case aB => exact (by repeat (first | (with_reducible first | exact HB.out | apply below_alloc | apply pw_below_drewN | apply below_drew1) | exact HB.out))); (case aF => exact (fun k_ hk => Kd.fresh' (Kd.R_lt (by (with_reducible repeat (first | apply Kd.R_alloc | apply Kd.R_drewN | apply Kd.R_drew)); exact HO_10.out)) k_ hk)); (case aO => exact (by (with_reducible repeat (first | apply Kd.R_alloc | apply Kd.R_drewN | apply Kd.R_drew)); exact HO_14.out)); (case aS => exact (below_size (by repeat (first | (with_reducible first | exact HB.out | apply below_alloc | apply pw_below_drewN | apply below_drew1) | exact HB.out)))); (case aL => have := LMc37.out; omega); intro v126 w38 ho hb hg hat; rw [← Ny125.out] at ho; have n0_ := Aside0.mk (Kd.S_after (ok := (fun k_ => some k_ ≠ (u10 : Value).ownBlock)) (by (with_reducible repeat (first | apply Kd.S_alloc | apply Kd.S_drewN | apply Kd.S_drew)); exact HO_9.out) hg hat); have n1_ := Aside0.mk (Kd.R_after (ok := (fun _ => True)) (by (with_reducible repeat (first | apply Kd.R_alloc | apply Kd.R_drewN | apply Kd.R_drew)); exact Kd.R_mono HO_10.out (fun _ hk => ⟨trivial, hk⟩)) hg hat); have n2_ := Aside0.mk (hb); have n3_ := Aside0.mk (ho); clear HO_9; clear HO_10; clear HB; clear HO_14; have HO_9 := n0_; have HO_10 := n1_; have HB := n2_; have HO127 := n3_; clear n0_ n1_ n2_ n3_; clear ho hb hg hat))
                                        go_roundg k6
                                        case measure => have := HJ3.out; have := HK2.out; have := HK3.out; have := HK4.out; have := HK5.out; have := HK6.out; omega
                                        case rel => exact ⟨(y125), (wrap64 (x15_6 + 1)), (by first | rfl | (simp; done) | (simp [*]; done)), H', ⟨by have := HJ3.out; have := HK2.out; have := HK3.out; have := HK4.out; have := HK5.out; have := HK6.out; omega⟩, ⟨by (with_reducible repeat (first | apply Kd.S_alloc | apply Kd.S_drewN | apply Kd.S_drew)); exact HO_9.out⟩, ⟨by (with_reducible repeat (first | apply Kd.R_alloc | apply Kd.R_drewN | apply Kd.R_drew)); exact Kd.R_mono HO_10.out (fun _ hk => hk.2)⟩, ⟨by (with_reducible repeat (first | apply Kd.R_alloc | apply Kd.R_drewN | apply Kd.R_drew)); exact HO127.out⟩, ⟨by repeat (first | (with_reducible first | exact HB.out | apply below_alloc | apply pw_below_drewN | apply below_drew1) | exact HB.out)⟩⟩
                                      · rw [if_neg c37] at H
                                        exact absurd H (by simp)
                                    · rw [if_neg c36] at H
                                      have c36b0 : decide (x15_6 < a1) = false := decide_eq_false c36
                                      clear c36
                                      have H' := Aside0.mk H
                                      clear H
                                      go_wp2
                                      go_loopg [16] k6 (fun kq v16 w' => ∃ (x10_7 : List Int) (x14_7 : List Int) (x16_7 : Int), v16 = .int .i64 x16_7 ∧ Aside0 (spec_PutSets.l5 kq a0 a1 l2 x9_5 x10_7 x13_5 x14_7 x16_7 = some (r1, r2)) ∧ Aside0 (kq ≤ k6) ∧ Aside0 (Kd.S (Kd.slice 2 (Kd.int .i64)) 22 w' w.heap.size (fun k_ => some k_ ≠ (u10 : Value).ownBlock ∧ some k_ ≠ (u14 : Value).ownBlock) u9 x9_5) ∧ Aside0 (Kd.R (Kd.int .i64) 2 w' w.heap.size (fun k_ => some k_ ≠ (u14 : Value).ownBlock) u10 x10_7) ∧ Aside0 (Kd.R (Kd.int .i64) 2 w' w.heap.size (fun k_ => some k_ ≠ (u10 : Value).ownBlock) u14 x14_7) ∧ Aside0 (Below w.heap.size w w'))
                                      case atStart => exact ⟨(x10_5), (x14_6), (0), (by first | rfl | (simp; done) | (simp [*]; done)), H', ⟨Nat.le_refl _⟩, ⟨by (with_reducible repeat (first | apply Kd.S_alloc | apply Kd.S_drewN | apply Kd.S_drew)); exact HO_9.out⟩, ⟨by (with_reducible repeat (first | apply Kd.R_alloc | apply Kd.R_drewN | apply Kd.R_drew)); exact HO_10.out⟩, ⟨by (with_reducible repeat (first | apply Kd.R_alloc | apply Kd.R_drewN | apply Kd.R_drew)); exact HO_14.out⟩, ⟨by repeat (first | (with_reducible first | exact HB.out | apply below_alloc | apply pw_below_drewN | apply below_drew1) | exact HB.out)⟩⟩
                                      case round =>
                                        clear H'
                                        try clear c1
                                        try clear p1
                                        try clear q1
                                        try clear hx1
                                        try clear c2
                                        try clear p2
                                        try clear c3
                                        try clear c5
                                        try clear c6
                                        try clear p6
                                        try clear c8
                                        try clear c9
                                        try clear c9b0
                                        try clear c9b1
                                        try clear c10
                                        try clear p10
                                        try clear q10
                                        try clear hx10
                                        try clear c11
                                        try clear c11b0
                                        try clear c12
                                        try clear c12b0
                                        try clear c14
                                        try clear c14b0
                                        try clear c14b1
                                        try clear c17
                                        try clear c19
                                        try clear c19b0
                                        try clear c22
                                        try clear c24
                                        try clear c24b0
                                        try clear c25
                                        try clear c30
                                        try clear c30b0
                                        try clear c31
                                        try clear c33
                                        try clear c33b0
                                        try clear c36
                                        try clear c36b0
                                        try clear c37
                                        try clear hx103_0
                                        try clear hx105_0
                                        try clear p1
                                        try clear p10
                                        try clear p103
                                        try clear p105
                                        try clear p2
                                        try clear p6
                                        try clear q1
                                        try clear q10
                                        try clear q103
                                        try clear q105
                                        obtain ⟨x10_7, x14_7, x16_7, rfl, HA, HK7, HO_9, HO_10, HO_14, HB⟩ := hrel
                                        cases gk with
                                        | zero => exact absurd HA.out (by simp [spec_PutSets.l5])
                                        | succ k7 =>
                                          have H := HA.out
                                          clear HA
                                          simp only [spec_PutSets.l5] at H
                                          by_cases c39 : x16_7 < 2
                                          · rw [if_pos c39] at H
                                            have c39b0 : decide (x16_7 < 2) = true := decide_eq_true c39
                                            clear c39
                                            have H' := Aside0.mk H
                                            clear H
                                            go_wp2
                                            go_loopg [17] k7 (fun kq v17 w' => ∃ (x10_8 : List Int) (x14_8 : List Int) (x17_8 : Int), v17 = .int .i64 x17_8 ∧ Aside0 (spec_PutSets.l6 kq a0 a1 l2 x9_5 x10_8 x13_5 x14_8 x16_7 x17_8 = some (r1, r2)) ∧ Aside0 (kq ≤ k7) ∧ Aside0 (Kd.S (Kd.slice 2 (Kd.int .i64)) 22 w' w.heap.size (fun k_ => some k_ ≠ (u10 : Value).ownBlock ∧ some k_ ≠ (u14 : Value).ownBlock) u9 x9_5) ∧ Aside0 (Kd.R (Kd.int .i64) 2 w' w.heap.size (fun k_ => some k_ ≠ (u14 : Value).ownBlock) u10 x10_8) ∧ Aside0 (Kd.R (Kd.int .i64) 2 w' w.heap.size (fun k_ => some k_ ≠ (u10 : Value).ownBlock) u14 x14_8) ∧ Aside0 (Below w.heap.size w w'))
                                            case atStart => exact ⟨(x10_7), (x14_7), (0), (by first | rfl | (simp; done) | (simp [*]; done)), H', ⟨Nat.le_refl _⟩, ⟨by (with_reducible repeat (first | apply Kd.S_alloc | apply Kd.S_drewN | apply Kd.S_drew)); exact HO_9.out⟩, ⟨by (with_reducible repeat (first | apply Kd.R_alloc | apply Kd.R_drewN | apply Kd.R_drew)); exact HO_10.out⟩, ⟨by (with_reducible repeat (first | apply Kd.R_alloc | apply Kd.R_drewN | apply Kd.R_drew)); exact HO_14.out⟩, ⟨by repeat (first | (with_reducible first | exact HB.out | apply below_alloc | apply pw_below_drewN | apply below_drew1) | exact HB.out)⟩⟩
                                            case round =>
                                              clear H'
                                              try clear c1
                                              try clear p1
                                              try clear q1
                                              try clear hx1
                                              try clear c2
                                              try clear p2
                                              try clear c3
                                              try clear c5
                                              try clear c6
                                              try clear p6
                                              try clear c8
                                              try clear c9
                                              try clear c9b0
                                              try clear c9b1
                                              try clear c10
                                              try clear p10
                                              try clear q10
                                              try clear hx10
                                              try clear c11
                                              try clear c11b0
                                              try clear c12
                                              try clear c12b0
                                              try clear c14
                                              try clear c14b0
                                              try clear c14b1
                                              try clear c17
                                              try clear c19
                                              try clear c19b0
                                              try clear c22
                                              try clear c24
                                              try clear c24b0
                                              try clear c25
                                              try clear c30
                                              try clear c30b0
                                              try clear c31
                                              try clear c33
                                              try clear c33b0
                                              try clear c36
                                              try clear c36b0
                                              try clear c37
                                              try clear c39
                                              try clear c39b0
                                              try clear hx103_0
                                              try clear hx105_0
                                              try clear p1
                                              try clear p10
                                              try clear p103
                                              try clear p105
                                              try clear p2
                                              try clear p6
                                              try clear q1
                                              try clear q10
                                              try clear q103
                                              try clear q105
                                              obtain ⟨x10_8, x14_8, x17_8, rfl, HA, HK8, HO_9, HO_10, HO_14, HB⟩ := hrel
                                              cases gk with
                                              | zero => exact absurd HA.out (by simp [spec_PutSets.l6])
                                              | succ k8 =>
                                                have H := HA.out
                                                clear HA
                                                simp only [spec_PutSets.l6] at H
                                                by_cases c40 : x17_8 < a0
                                                · rw [if_pos c40] at H
                                                  have c40b0 : decide (x17_8 < a0) = true := decide_eq_true c40
                                                  clear c40
                                                  by_cases c41 : 0 ≤ x13_5
                                                  · rw [if_pos c41] at H
                                                    have c41b0 : decide (0 ≤ x13_5) = true := decide_eq_true c41
                                                    clear c41
                                                    by_cases c42 : x13_5 < (l2.length : Int)
                                                    · rw [if_pos c42] at H
                                                      have c42b0 : decide (x13_5 < (l2.length : Int)) = true := decide_eq_true c42
                                                      clear c42
                                                      obtain ⟨ji43, hji43⟩ : ∃ j_ : Int, (IntKind.u64.wrap (x17_8)) = j_ := ⟨_, rfl⟩
                                                      replace H : (if 0 ≤ (ji43) then (if (Go.bits .and .i64 (shr .i64 (rd l2 x13_5) (ji43)) 1) = 0 then (spec_PutSets.l6 k8 a0 a1 l2 x9_5 x10_8 x13_5 x14_8 x16_7 (wrap64 (x17_8 + 1))) else (if x16_7 = 0 then (if 0 ≤ x17_8 then (if x17_8 < (x10_8.length : Int) then (if (rd x10_8 x17_8) ≥ 0 then (if 0 ≤ (rd x10_8 x17_8) then (if (rd x10_8 x17_8) < (x14_8.length : Int) then (spec_PutSets.j8 k8 a0 a1 l2 x9_5 x10_8 x13_5 x14_8 x16_7 x17_8 (decide ((rd x14_8 (rd x10_8 x17_8)) < 0))) else (none)) else (none)) else (spec_PutSets.j8 k8 a0 a1 l2 x9_5 x10_8 x13_5 x14_8 x16_7 x17_8 false)) else (none)) else (none)) else (spec_PutSets.j8 k8 a0 a1 l2 x9_5 x10_8 x13_5 x14_8 x16_7 x17_8 false))) else (none)) = some (r1, r2) := by first | (rw [hji43] at H; exact H) | (simp only [hji43] at H ⊢; exact H)
                                                      by_cases c44 : 0 ≤ (ji43)
                                                      · rw [if_pos c44] at H
                                                        have c44b0 := eq_true c44
                                                        have c44b1 : decide (0 ≤ (ji43)) = true := decide_eq_true c44
                                                        clear c44
                                                        obtain ⟨ji45, hji45⟩ : ∃ j_ : Int, (shr .i64 (rd l2 x13_5) (ji43)) = j_ := ⟨_, rfl⟩
                                                        replace H : (if (Go.bits .and .i64 (ji45) 1) = 0 then (spec_PutSets.l6 k8 a0 a1 l2 x9_5 x10_8 x13_5 x14_8 x16_7 (wrap64 (x17_8 + 1))) else (if x16_7 = 0 then (if 0 ≤ x17_8 then (if x17_8 < (x10_8.length : Int) then (if (rd x10_8 x17_8) ≥ 0 then (if 0 ≤ (rd x10_8 x17_8) then (if (rd x10_8 x17_8) < (x14_8.length : Int) then (spec_PutSets.j8 k8 a0 a1 l2 x9_5 x10_8 x13_5 x14_8 x16_7 x17_8 (decide ((rd x14_8 (rd x10_8 x17_8)) < 0))) else (none)) else (none)) else (spec_PutSets.j8 k8 a0 a1 l2 x9_5 x10_8 x13_5 x14_8 x16_7 x17_8 false)) else (none)) else (none)) else (spec_PutSets.j8 k8 a0 a1 l2 x9_5 x10_8 x13_5 x14_8 x16_7 x17_8 false))) = some (r1, r2) := by first | (rw [hji45] at H; exact H) | (simp only [hji45] at H ⊢; exact H)
                                                        have hji45_ : ((rd l2 x13_5) / 2 ^ min (ji43).toNat 64) = ji45 := hji45
                                                        have hji45z : (ji43) ≤ 64 → ((rd l2 x13_5) / 2 ^ (ji43).toNat) = ji45 := shr_small hji45
                                                        by_cases c46 : (Go.bits .and .i64 (ji45) 1) = 0
                                                        · rw [if_pos c46] at H
                                                          have c46b0 : ((Go.bits .and .i64 (ji45) 1) == 0) = true := beq_iff_eq.mpr c46
                                                          have c46b1 : ((Go.bits .and .i64 (ji45) 1) != 0) = false := bne_eq_false_iff_eq.mpr c46
                                                          clear c46
                                                          have H' := Aside0.mk H
                                                          clear H
                                                          have p128 : 0 ≤ (x13_5 : Int) := of_decide_eq_true (by first | (with_reducible assumption) | assumption)
                                                          have q128 : x13_5 < (l2.length : Int) := of_decide_eq_true (by first | (with_reducible assumption) | assumption)
                                                          obtain ⟨ad128, e128, hx128_0⟩ := Kd.at_int HR2.out x13_5 p128 q128
                                                          cases e128
                                                          replace hx128_0 := (HB.out.cell (World.block_lt_of_cell? w _ hx128_0)).trans hx128_0
                                                          replace p128 := eq_true p128
                                                          replace q128 := eq_true q128
                                                          go_wp2
                                                          go_roundg k8
                                                          case measure => have := HJ3.out; have := HK2.out; have := HK3.out; have := HK4.out; have := HK5.out; have := HK6.out; have := HK7.out; have := HK8.out; omega
                                                          case rel => exact ⟨(x10_8), (x14_8), (wrap64 (x17_8 + 1)), (by first | rfl | (simp; done) | (simp [*]; done)), H', ⟨by have := HJ3.out; have := HK2.out; have := HK3.out; have := HK4.out; have := HK5.out; have := HK6.out; have := HK7.out; have := HK8.out; omega⟩, ⟨by (with_reducible repeat (first | apply Kd.S_alloc | apply Kd.S_drewN | apply Kd.S_drew)); exact HO_9.out⟩, ⟨by (with_reducible repeat (first | apply Kd.R_alloc | apply Kd.R_drewN | apply Kd.R_drew)); exact HO_10.out⟩, ⟨by (with_reducible repeat (first | apply Kd.R_alloc | apply Kd.R_drewN | apply Kd.R_drew)); exact HO_14.out⟩, ⟨by repeat (first | (with_reducible first | exact HB.out | apply below_alloc | apply pw_below_drewN | apply below_drew1) | exact HB.out)⟩⟩
                                                        · rw [if_neg c46] at H
                                                          have c46b0 : ((Go.bits .and .i64 (ji45) 1) == 0) = false := beq_eq_false_iff_ne.mpr c46
                                                          have c46b1 : ((Go.bits .and .i64 (ji45) 1) != 0) = true := bne_iff_ne.mpr c46
                                                          have HC47 := Aside0.mk H
                                                          clear H
                                                          have p128 : 0 ≤ (x13_5 : Int) := of_decide_eq_true (by first | (with_reducible assumption) | assumption)
                                                          have q128 : x13_5 < (l2.length : Int) := of_decide_eq_true (by first | (with_reducible assumption) | assumption)
                                                          obtain ⟨ad128, e128, hx128_0⟩ := Kd.at_int HR2.out x13_5 p128 q128
                                                          cases e128
                                                          replace hx128_0 := (HB.out.cell (World.block_lt_of_cell? w _ hx128_0)).trans hx128_0
                                                          replace p128 := eq_true p128
                                                          replace q128 := eq_true q128
                                                          go_upto_region 32 with (fail)
                                                          go_cut [133] (fun v133 wc => ∃ (kq : Nat) (x133_46 : Bool), v133 = .bool x133_46 ∧ Aside0 (spec_PutSets.j8 kq a0 a1 l2 x9_5 x10_8 x13_5 x14_8 x16_7 x17_8 x133_46 = some (r1, r2)) ∧ Aside0 (kq ≤ k8) ∧ Aside0 (Kd.S (Kd.slice 2 (Kd.int .i64)) 22 wc w.heap.size (fun k_ => some k_ ≠ (u10 : Value).ownBlock ∧ some k_ ≠ (u14 : Value).ownBlock) u9 x9_5) ∧ Aside0 (Kd.R (Kd.int .i64) 2 wc w.heap.size (fun k_ => some k_ ≠ (u14 : Value).ownBlock) u10 x10_8) ∧ Aside0 (Kd.R (Kd.int .i64) 2 wc w.heap.size (fun k_ => some k_ ≠ (u10 : Value).ownBlock) u14 x14_8) ∧ Aside0 (Below w.heap.size w wc))
                                                          case first =>
                                                            have H := HC47.out
                                                            clear HC47
                                                            by_cases c48 : x16_7 = 0
                                                            · rw [if_pos c48] at H
                                                              have c48b0 : (x16_7 == 0) = true := beq_iff_eq.mpr c48
                                                              have c48b1 : (x16_7 != 0) = false := bne_eq_false_iff_eq.mpr c48
                                                              clear c48
                                                              (first | rw [c48b0] | (simp only [i64_w, i32_w]; rw [c48b0]) | skip)
                                                              by_cases c49 : 0 ≤ x17_8
                                                              · rw [if_pos c49] at H
                                                                have c49b0 : decide (0 ≤ x17_8) = true := decide_eq_true c49
                                                                clear c49
                                                                by_cases c50 : x17_8 < (x10_8.length : Int)
                                                                · rw [if_pos c50] at H
                                                                  have c50b0 : decide (x17_8 < (x10_8.length : Int)) = true := decide_eq_true c50
                                                                  clear c50
                                                                  by_cases c51 : (rd x10_8 x17_8) ≥ 0
                                                                  · rw [if_pos c51] at H
                                                                    have c51b0 : decide (0 ≤ (rd x10_8 x17_8)) = true := decide_eq_true c51
                                                                    clear c51
                                                                    by_cases c52 : 0 ≤ (rd x10_8 x17_8)
                                                                    · rw [if_pos c52] at H
                                                                      have c52b0 : decide (0 ≤ (rd x10_8 x17_8)) = true := decide_eq_true c52
                                                                      clear c52
                                                                      by_cases c53 : (rd x10_8 x17_8) < (x14_8.length : Int)
                                                                      · rw [if_pos c53] at H
                                                                        have c53b0 : decide ((rd x10_8 x17_8) < (x14_8.length : Int)) = true := decide_eq_true c53
                                                                        clear c53
                                                                        have H' := Aside0.mk H
                                                                        clear H
                                                                        obtain ⟨Ao54, co54, eo54⟩ := Kd.R_slice HO_10.out
                                                                        subst eo54
                                                                        have p129 : 0 ≤ (x17_8 : Int) := of_decide_eq_true (by first | (with_reducible assumption) | assumption)
                                                                        have q129 : x17_8 < (x10_8.length : Int) := of_decide_eq_true (by first | (with_reducible assumption) | assumption)
                                                                        obtain ⟨ad129, e129, hx129_0⟩ := Kd.at_int (Kd.R_reads' HO_10.out).2.2 x17_8 p129 q129
                                                                        cases e129
                                                                        replace p129 := eq_true p129
                                                                        replace q129 := eq_true q129
                                                                        have p130 : 0 ≤ (x17_8 : Int) := of_decide_eq_true (by first | (with_reducible assumption) | assumption)
                                                                        have q130 : x17_8 < (x10_8.length : Int) := of_decide_eq_true (by first | (with_reducible assumption) | assumption)
                                                                        obtain ⟨ad130, e130, hx130_0⟩ := Kd.at_int (Kd.R_reads' HO_10.out).2.2 x17_8 p130 q130
                                                                        obtain rfl : ad129 = ad130 := (by injection e130)
                                                                        replace p130 := eq_true p130
                                                                        replace q130 := eq_true q130
                                                                        obtain ⟨Ao55, co55, eo55⟩ := Kd.R_slice HO_14.out
                                                                        subst eo55
                                                                        have p131 : 0 ≤ ((rd x10_8 x17_8) : Int) := of_decide_eq_true (by first | (with_reducible assumption) | assumption)
                                                                        have q131 : (rd x10_8 x17_8) < (x14_8.length : Int) := of_decide_eq_true (by first | (with_reducible assumption) | assumption)
                                                                        obtain ⟨ad131, e131, hx131_0⟩ := Kd.at_int (Kd.R_reads' HO_14.out).2.2 (rd x10_8 x17_8) p131 q131
                                                                        cases e131
                                                                        replace p131 := eq_true p131
                                                                        replace q131 := eq_true q131
                                                                        go_wp2
                                                                        go_meet
                                                                        case rel => exact ⟨_, (decide ((rd x14_8 (rd x10_8 x17_8)) < 0)), (by first | rfl | (simp; done) | (simp [*]; done)), H', ⟨by have := HJ3.out; have := HK2.out; have := HK3.out; have := HK4.out; have := HK5.out; have := HK6.out; have := HK7.out; have := HK8.out; first | omega | exact Nat.le_refl _⟩, ⟨by (with_reducible repeat (first | apply Kd.S_alloc | apply Kd.S_drewN | apply Kd.S_drew)); exact HO_9.out⟩, ⟨by (with_reducible repeat (first | apply Kd.R_alloc | apply Kd.R_drewN | apply Kd.R_drew)); exact HO_10.out⟩, ⟨by (with_reducible repeat (first | apply Kd.R_alloc | apply Kd.R_drewN | apply Kd.R_drew)); exact HO_14.out⟩, ⟨by repeat (first | (with_reducible first | exact HB.out | apply below_alloc | apply pw_below_drewN | apply below_drew1) | exact HB.out)⟩⟩
                                                                      · rw [if_neg c53] at H
                                                                        exact absurd H (by simp)
                                                                    · rw [if_neg c52] at H
                                                                      exact absurd H (by simp)
                                                                  · rw [if_neg c51] at H
                                                                    have c51b0 : decide (0 ≤ (rd x10_8 x17_8)) = false := decide_eq_false c51
                                                                    clear c51
                                                                    have H' := Aside0.mk H
                                                                    clear H
                                                                    obtain ⟨Ao56, co56, eo56⟩ := Kd.R_slice HO_10.out
                                                                    subst eo56
                                                                    have p129 : 0 ≤ (x17_8 : Int) := of_decide_eq_true (by first | (with_reducible assumption) | assumption)
                                                                    have q129 : x17_8 < (x10_8.length : Int) := of_decide_eq_true (by first | (with_reducible assumption) | assumption)
                                                                    obtain ⟨ad129, e129, hx129_0⟩ := Kd.at_int (Kd.R_reads' HO_10.out).2.2 x17_8 p129 q129
                                                                    cases e129
                                                                    replace p129 := eq_true p129
                                                                    replace q129 := eq_true q129
                                                                    go_wp2
                                                                    go_meet
                                                                    case rel => exact ⟨_, (false), (by first | rfl | (simp; done) | (simp [*]; done)), H', ⟨by have := HJ3.out; have := HK2.out; have := HK3.out; have := HK4.out; have := HK5.out; have := HK6.out; have := HK7.out; have := HK8.out; first | omega | exact Nat.le_refl _⟩, ⟨by (with_reducible repeat (first | apply Kd.S_alloc | apply Kd.S_drewN | apply Kd.S_drew)); exact HO_9.out⟩, ⟨by (with_reducible repeat (first | apply Kd.R_alloc | apply Kd.R_drewN | apply Kd.R_drew)); exact HO_10.out⟩, ⟨by (with_reducible repeat (first | apply Kd.R_alloc | apply Kd.R_drewN | apply Kd.R_drew)); exact HO_14.out⟩, ⟨by repeat (first | (with_reducible first | exact HB.out | apply below_alloc | apply pw_below_drewN | apply below_drew1) | exact HB.out)⟩⟩
                                                                · rw [if_neg c50] at H
                                                                  exact absurd H (by simp)
                                                              · rw [if_neg c49] at H
                                                                exact absurd H (by simp)
                                                            · rw [if_neg c48] at H
                                                              have c48b0 : (x16_7 == 0) = false := beq_eq_false_iff_ne.mpr c48
                                                              have c48b1 : (x16_7 != 0) = true := bne_iff_ne.mpr c48
                                                              (first | rw [c48b0] | (simp only [i64_w, i32_w]; rw [c48b0]) | skip)
                                                              have H' := Aside0.mk H
                                                              clear H
                                                              go_wp2
                                                              go_meet
                                                              case rel => exact ⟨_, (false), (by first | rfl | (simp; done) | (simp [*]; done)), H', ⟨by have := HJ3.out; have := HK2.out; have := HK3.out; have := HK4.out; have := HK5.out; have := HK6.out; have := HK7.out; have := HK8.out; first | omega | exact Nat.le_refl _⟩, ⟨by (with_reducible repeat (first | apply Kd.S_alloc | apply Kd.S_drewN | apply Kd.S_drew)); exact HO_9.out⟩, ⟨by (with_reducible repeat (first | apply Kd.R_alloc | apply Kd.R_drewN | apply Kd.R_drew)); exact HO_10.out⟩, ⟨by (with_reducible repeat (first | apply Kd.R_alloc | apply Kd.R_drewN | apply Kd.R_drew)); exact HO_14.out⟩, ⟨by repeat (first | (with_reducible first | exact HB.out | apply below_alloc | apply pw_below_drewN | apply below_drew1) | exact HB.out)⟩⟩
                                                          case rest =>
                                                            clear HC47
                                                            try clear c1
                                                            try clear p1
                                                            try clear q1
                                                            try clear hx1
                                                            try clear c2
                                                            try clear p2
                                                            try clear c3
                                                            try clear c4
                                                            try clear c5
                                                            try clear c6
                                                            try clear p6
                                                            try clear c8
                                                            try clear c9
                                                            try clear c9b0
                                                            try clear c9b1
                                                            try clear c10
                                                            try clear p10
                                                            try clear q10
                                                            try clear hx10
                                                            try clear c11
                                                            try clear c11b0
                                                            try clear c12
                                                            try clear c12b0
                                                            try clear p12
                                                            try clear q12
                                                            try clear hx12
                                                            try clear p13
                                                            try clear q13
                                                            try clear hx13
                                                            try clear c14
                                                            try clear c14b0
                                                            try clear c14b1
                                                            try clear c17
                                                            try clear c19
                                                            try clear c19b0
                                                            try clear c22
                                                            try clear c24
                                                            try clear c24b0
                                                            try clear c25
                                                            try clear c30
                                                            try clear c30b0
                                                            try clear c31
                                                            try clear c33
                                                            try clear c33b0
                                                            try clear c36
                                                            try clear c36b0
                                                            try clear c37
                                                            try clear c39
                                                            try clear c39b0
                                                            try clear c40
                                                            try clear c40b0
                                                            try clear c41
                                                            try clear c41b0
                                                            try clear c42
                                                            try clear c42b0
                                                            try clear c44
                                                            try clear c44b0
                                                            try clear c44b1
                                                            try clear c46
                                                            try clear c46b0
                                                            try clear c46b1
                                                            try clear c48
                                                            try clear c48b0
                                                            try clear c48b1
                                                            try clear c49
                                                            try clear c49b0
                                                            try clear c50
                                                            try clear c50b0
                                                            try clear c51
                                                            try clear c51b0
                                                            try clear c52
                                                            try clear c52b0
                                                            try clear c53
                                                            try clear c53b0
                                                            try clear hx103_0
                                                            try clear hx105_0
                                                            try clear hx128_0
                                                            try clear hx129_0
                                                            try clear hx130_0
                                                            try clear hx131_0
                                                            try clear p1
                                                            try clear p10
                                                            try clear p103
                                                            try clear p105
                                                            try clear p128
                                                            try clear p129
                                                            try clear p130
                                                            try clear p131
                                                            try clear p2
                                                            try clear p6
                                                            try clear q1
                                                            try clear q10
                                                            try clear q103
                                                            try clear q105
                                                            try clear q128
                                                            try clear q129
                                                            try clear q130
                                                            try clear q131
                                                            obtain ⟨kq, x133_46, rfl, HA, HJ46, HO_9, HO_10, HO_14, HB⟩ := hcut
                                                            cases kq with
                                                            | zero => exact absurd HA.out (by simp [spec_PutSets.j8])
                                                            | succ kj46 =>
                                                              have H := HA.out
                                                              clear HA
                                                              simp only [spec_PutSets.j8] at H
                                                              have HC57 := Aside0.mk H
                                                              clear H
                                                              go_upto_if 133 with (fail)
                                                              go_cut [] (fun wc => ∃ (kq : Nat) (x14_56 : List Int), Aside0 (spec_PutSets.j9 kq a0 a1 l2 x9_5 x10_8 x13_5 x14_56 x16_7 x17_8 = some (r1, r2)) ∧ Aside0 (kq ≤ kj46) ∧ Aside0 (Kd.S (Kd.slice 2 (Kd.int .i64)) 22 wc w.heap.size (fun k_ => some k_ ≠ (u10 : Value).ownBlock ∧ some k_ ≠ (u14 : Value).ownBlock) u9 x9_5) ∧ Aside0 (Kd.R (Kd.int .i64) 2 wc w.heap.size (fun k_ => some k_ ≠ (u14 : Value).ownBlock) u10 x10_8) ∧ Aside0 (Kd.R (Kd.int .i64) 2 wc w.heap.size (fun k_ => some k_ ≠ (u10 : Value).ownBlock) u14 x14_56) ∧ Aside0 (Below w.heap.size w wc))
                                                              case first =>
                                                                have H := HC57.out
                                                                clear HC57
                                                                by_cases c58 : x133_46 = true
                                                                · subst c58
                                                                  have H1 : (if 0 ≤ x17_8 then (if x17_8 < (x10_8.length : Int) then (if 0 ≤ (rd x10_8 x17_8) then (if (rd x10_8 x17_8) < (x14_8.length : Int) then (spec_PutSets.j9 kj46 a0 a1 l2 x9_5 x10_8 x13_5 (x14_8.set ((rd x10_8 x17_8) : Int).toNat x17_8) x16_7 x17_8) else (none)) else (none)) else (none)) else (none)) = some (r1, r2) := by rw [if_pos rfl] at H; exact H
                                                                  clear H
                                                                  have H := H1
                                                                  clear H1
                                                                  by_cases c59 : 0 ≤ x17_8
                                                                  · rw [if_pos c59] at H
                                                                    have c59b0 : decide (0 ≤ x17_8) = true := decide_eq_true c59
                                                                    clear c59
                                                                    (first | rw [c59b0] | (simp only [i64_w, i32_w]; rw [c59b0]) | skip)
                                                                    by_cases c60 : x17_8 < (x10_8.length : Int)
                                                                    · rw [if_pos c60] at H
                                                                      have c60b0 : decide (x17_8 < (x10_8.length : Int)) = true := decide_eq_true c60
                                                                      clear c60
                                                                      by_cases c61 : 0 ≤ (rd x10_8 x17_8)
                                                                      · rw [if_pos c61] at H
                                                                        have c61b0 : decide (0 ≤ (rd x10_8 x17_8)) = true := decide_eq_true c61
                                                                        clear c61
                                                                        by_cases c62 : (rd x10_8 x17_8) < (x14_8.length : Int)
                                                                        · rw [if_pos c62] at H
                                                                          have c62b0 : decide ((rd x10_8 x17_8) < (x14_8.length : Int)) = true := decide_eq_true c62
                                                                          clear c62
                                                                          obtain ⟨y133, hy133⟩ : ∃ y_ : List Int, y_ = (x14_8.set ((rd x10_8 x17_8) : Int).toNat x17_8) := ⟨_, rfl⟩
                                                                          replace H : (spec_PutSets.j9 kj46 a0 a1 l2 x9_5 x10_8 x13_5 y133 x16_7 x17_8) = some (r1, r2) := by first | (rw [hy133]; with_reducible exact H) | (have H2_ := (Option.bind_some _ _).symm.trans H; rw [hy133]; with_reducible exact H2_) | (have H2_ := (Option.bind_some _ _).symm.trans H; with_reducible exact H2_) | with_reducible exact H | (rw [hy133]; exact H) | exact H
                                                                          have Ny133 := Aside0.mk hy133
                                                                          clear hy133
                                                                          have H' := Aside0.mk H
                                                                          clear H
                                                                          obtain ⟨Ao64, co64, eo64⟩ := Kd.R_slice HO_10.out
                                                                          subst eo64
                                                                          have p132 : 0 ≤ (x17_8 : Int) := of_decide_eq_true (by first | (with_reducible assumption) | assumption)
                                                                          have q132 : x17_8 < (x10_8.length : Int) := of_decide_eq_true (by first | (with_reducible assumption) | assumption)
                                                                          obtain ⟨ad132, e132, hx132_0⟩ := Kd.at_int (Kd.R_reads' HO_10.out).2.2 x17_8 p132 q132
                                                                          cases e132
                                                                          replace p132 := eq_true p132
                                                                          replace q132 := eq_true q132
                                                                          have p63 : 0 ≤ ((rd x10_8 x17_8) : Int) := of_decide_eq_true (by first | (with_reducible assumption) | assumption)
                                                                          have q63 : ((rd x10_8 x17_8) : Int) < ((x14_8.length : Int) : Int) := of_decide_eq_true (by first | (with_reducible assumption) | assumption)
                                                                          obtain ⟨go63, co63, eo63, gb63, gl63, cl63, HG63⟩ := Kd.R_form HO_14.out (by omega)
                                                                          (first | cases eo63 | (injection eo63 with ea_ en_ ec_; (first | subst ea_ | (injection ea_ with ea_; subst ea_)); subst ec_; clear en_))
                                                                          have GB63 := Aside0.mk gb63
                                                                          have GG63 := Aside0.mk HG63
                                                                          clear gb63 gl63 HG63
                                                                          obtain ⟨hx63_0, hf63_0⟩ := Kd.R_celln 0 HO_14.out ((rd x10_8 x17_8) : Int) p63 q63
                                                                          replace p63 := eq_true p63
                                                                          replace q63 := eq_true q63
                                                                          have HP65 := Kd.R_putg HO_14.out ((rd x10_8 x17_8) : Int) x17_8
                                                                          go_wp2_with (first | ((with_reducible refine gate_store (t := 2) (p := 140) rfl ?_); refine store_event (t := 2) (p := 140) (v := ?vo_w66) (w1 := (wc.setCell ⟨go63, ((rd x10_8 x17_8) : Int).toNat, none⟩ (.int .i64 x17_8))) ?hg ?ho ?hn ?hr ?_; (case ho => rfl); (case hg => rfl); (case hn => rfl); (case hr => first | (go_simp; done) | (go_simp; rfl)); intro w66 hw; have hg : wc.grownBy w66 (some go63) := (by rw [hw]; exact HP65.2); have hp_ : Kd.R (Kd.int .i64) 2 w66 w.heap.size (fun k_ => some k_ ≠ (.slice (some ad132) x10_8.length co64 : Value).ownBlock) (.slice (some ⟨go63, 0, none⟩) x14_8.length co63) y133 := (by rw [hw, Ny133.out]; exact HP65.1); clear HP65; have n0_ := Aside0.mk (Kd.S_after (v := (.slice (some ⟨go63, 0, none⟩) x14_8.length co63)) (v1 := (.slice (some ⟨go63, 0, none⟩) x14_8.length co63)) (ok := (fun k_ => some k_ ≠ (.slice (some ad132) x10_8.length co64 : Value).ownBlock)) (by (with_reducible repeat (first | apply Kd.S_alloc | apply Kd.S_drewN | apply Kd.S_drew)); exact HO_9.out) hg (.inl rfl)); have n1_ := Aside0.mk (Kd.R_after (v := (.slice (some ⟨go63, 0, none⟩) x14_8.length co63)) (v1 := (.slice (some ⟨go63, 0, none⟩) x14_8.length co63)) (ok := (fun _ => True)) (by (with_reducible repeat (first | apply Kd.R_alloc | apply Kd.R_drewN | apply Kd.R_drew)); exact Kd.R_mono HO_10.out (fun _ hk => ⟨trivial, hk⟩)) hg (.inl rfl)); have n2_ := Aside0.mk (hp_); have n3_ := Aside0.mk ((by rw [hw]; exact below_set (HB.out) GB63.out : Below w.heap.size w w66)); clear HO_9; clear HO_10; clear HO_14; clear HB; have HO_9 := n0_; have HO_10 := n1_; have HO_14 := n2_; have HB := n3_; clear n0_ n1_ n2_ n3_; clear hg hw hp_))
                                                                          go_meet
                                                                          case rel => exact ⟨_, (y133), H', ⟨by have := HJ3.out; have := HK2.out; have := HK3.out; have := HK4.out; have := HK5.out; have := HK6.out; have := HK7.out; have := HK8.out; have := HJ46.out; first | omega | exact Nat.le_refl _⟩, ⟨by (with_reducible repeat (first | apply Kd.S_alloc | apply Kd.S_drewN | apply Kd.S_drew)); exact HO_9.out⟩, ⟨by (with_reducible repeat (first | apply Kd.R_alloc | apply Kd.R_drewN | apply Kd.R_drew)); exact Kd.R_mono HO_10.out (fun _ hk => hk.2)⟩, ⟨by (with_reducible repeat (first | apply Kd.R_alloc | apply Kd.R_drewN | apply Kd.R_drew)); exact HO_14.out⟩, ⟨by repeat (first | (with_reducible first | exact HB.out | apply below_alloc | apply pw_below_drewN | apply below_drew1) | exact HB.out)⟩⟩
                                                                        · rw [if_neg c62] at H
                                                                          exact absurd H (by simp)
                                                                      · rw [if_neg c61] at H
                                                                        exact absurd H (by simp)
                                                                    · rw [if_neg c60] at H
                                                                      exact absurd H (by simp)
                                                                  · rw [if_neg c59] at H
                                                                    exact absurd H (by simp)
                                                                · replace c58 := Bool.eq_false_iff.mpr c58
                                                                  subst c58
                                                                  have H1 : (spec_PutSets.j9 kj46 a0 a1 l2 x9_5 x10_8 x13_5 x14_8 x16_7 x17_8) = some (r1, r2) := by rw [if_neg (show ¬ (false = true) by decide)] at H; exact H
                                                                  clear H
                                                                  have H := H1
                                                                  clear H1
                                                                  have H' := Aside0.mk H
                                                                  clear H
                                                                  go_wp2
                                                                  go_meet
                                                                  case rel => exact ⟨_, (x14_8), H', ⟨by have := HJ3.out; have := HK2.out; have := HK3.out; have := HK4.out; have := HK5.out; have := HK6.out; have := HK7.out; have := HK8.out; have := HJ46.out; first | omega | exact Nat.le_refl _⟩, ⟨by (with_reducible repeat (first | apply Kd.S_alloc | apply Kd.S_drewN | apply Kd.S_drew)); exact HO_9.out⟩, ⟨by (with_reducible repeat (first | apply Kd.R_alloc | apply Kd.R_drewN | apply Kd.R_drew)); exact HO_10.out⟩, ⟨by (with_reducible repeat (first | apply Kd.R_alloc | apply Kd.R_drewN | apply Kd.R_drew)); exact HO_14.out⟩, ⟨by repeat (first | (with_reducible first | exact HB.out | apply below_alloc | apply pw_below_drewN | apply below_drew1) | exact HB.out)⟩⟩
                                                              case rest =>
                                                                clear HC57
                                                                try clear c1
                                                                try clear p1
                                                                try clear q1
                                                                try clear hx1
                                                                try clear c2
                                                                try clear p2
                                                                try clear c3
                                                                try clear c4
                                                                try clear c5
                                                                try clear c6
                                                                try clear p6
                                                                try clear q6
                                                                try clear hx6
                                                                try clear hf6
                                                                try clear c8
                                                                try clear c9
                                                                try clear c9b0
                                                                try clear c9b1
                                                                try clear c10
                                                                try clear p10
                                                                try clear q10
                                                                try clear hx10
                                                                try clear c11
                                                                try clear c11b0
                                                                try clear c12
                                                                try clear c12b0
                                                                try clear p12
                                                                try clear q12
                                                                try clear hx12
                                                                try clear p13
                                                                try clear q13
                                                                try clear hx13
                                                                try clear c14
                                                                try clear c14b0
                                                                try clear c14b1
                                                                try clear c17
                                                                try clear c19
                                                                try clear c19b0
                                                                try clear c22
                                                                try clear c24
                                                                try clear c24b0
                                                                try clear c25
                                                                try clear c30
                                                                try clear c30b0
                                                                try clear c31
                                                                try clear c33
                                                                try clear c33b0
                                                                try clear c36
                                                                try clear c36b0
                                                                try clear c37
                                                                try clear c39
                                                                try clear c39b0
                                                                try clear c40
                                                                try clear c40b0
                                                                try clear c41
                                                                try clear c41b0
                                                                try clear c42
                                                                try clear c42b0
                                                                try clear c44
                                                                try clear c44b0
                                                                try clear c44b1
                                                                try clear c46
                                                                try clear c46b0
                                                                try clear c46b1
                                                                try clear c48
                                                                try clear c48b0
                                                                try clear c48b1
                                                                try clear c49
                                                                try clear c49b0
                                                                try clear c50
                                                                try clear c50b0
                                                                try clear c51
                                                                try clear c51b0
                                                                try clear c52
                                                                try clear c52b0
                                                                try clear c53
                                                                try clear c53b0
                                                                try clear c58
                                                                try clear c59
                                                                try clear c59b0
                                                                try clear c60
                                                                try clear c60b0
                                                                try clear c61
                                                                try clear c61b0
                                                                try clear c62
                                                                try clear c62b0
                                                                try clear p63
                                                                try clear q63
                                                                try clear hx63
                                                                try clear hf63
                                                                try clear p64
                                                                try clear hx103_0
                                                                try clear hx105_0
                                                                try clear hx128_0
                                                                try clear hx129_0
                                                                try clear hx130_0
                                                                try clear hx131_0
                                                                try clear hx132_0
                                                                try clear hx63_0
                                                                try clear p1
                                                                try clear p10
                                                                try clear p103
                                                                try clear p105
                                                                try clear p12
                                                                try clear p128
                                                                try clear p129
                                                                try clear p13
                                                                try clear p130
                                                                try clear p131
                                                                try clear p132
                                                                try clear p2
                                                                try clear p6
                                                                try clear p63
                                                                try clear q1
                                                                try clear q10
                                                                try clear q103
                                                                try clear q105
                                                                try clear q12
                                                                try clear q128
                                                                try clear q129
                                                                try clear q13
                                                                try clear q130
                                                                try clear q131
                                                                try clear q132
                                                                try clear q63
                                                                obtain ⟨kq, x14_56, HA, HJ56, HO_9, HO_10, HO_14, HB⟩ := hcut
                                                                cases kq with
                                                                | zero => exact absurd HA.out (by simp [spec_PutSets.j9])
                                                                | succ kj56 =>
                                                                  have H := HA.out
                                                                  clear HA
                                                                  simp only [spec_PutSets.j9] at H
                                                                  have HC67 := Aside0.mk H
                                                                  clear H
                                                                  go_upto_region 34 with (fail)
                                                                  go_cut [160] (fun v160 wc => ∃ (kq : Nat) (x160_66 : Bool), v160 = .bool x160_66 ∧ Aside0 (spec_PutSets.j10 kq a0 a1 l2 x9_5 x10_8 x13_5 x14_56 x16_7 x17_8 x160_66 = some (r1, r2)) ∧ Aside0 (kq ≤ kj56) ∧ Aside0 (Kd.S (Kd.slice 2 (Kd.int .i64)) 22 wc w.heap.size (fun k_ => some k_ ≠ (u10 : Value).ownBlock ∧ some k_ ≠ (u14 : Value).ownBlock) u9 x9_5) ∧ Aside0 (Kd.R (Kd.int .i64) 2 wc w.heap.size (fun k_ => some k_ ≠ (u14 : Value).ownBlock) u10 x10_8) ∧ Aside0 (Kd.R (Kd.int .i64) 2 wc w.heap.size (fun k_ => some k_ ≠ (u10 : Value).ownBlock) u14 x14_56) ∧ Aside0 (Below w.heap.size w wc))
                                                                  case first =>
                                                                    have H := HC67.out
                                                                    clear HC67
                                                                    by_cases c68 : x16_7 = 1
                                                                    · rw [if_pos c68] at H
                                                                      have c68b0 : (x16_7 == 1) = true := beq_iff_eq.mpr c68
                                                                      have c68b1 : (x16_7 != 1) = false := bne_eq_false_iff_eq.mpr c68
                                                                      clear c68
                                                                      (first | rw [c68b0] | (simp only [i64_w, i32_w]; rw [c68b0]) | skip)
                                                                      by_cases c69 : 0 ≤ x17_8
                                                                      · rw [if_pos c69] at H
                                                                        have c69b0 : decide (0 ≤ x17_8) = true := decide_eq_true c69
                                                                        clear c69
                                                                        by_cases c70 : x17_8 < (x10_8.length : Int)
                                                                        · rw [if_pos c70] at H
                                                                          have c70b0 : decide (x17_8 < (x10_8.length : Int)) = true := decide_eq_true c70
                                                                          clear c70
                                                                          by_cases c71 : (rd x10_8 x17_8) < 0
                                                                          · rw [if_pos c71] at H
                                                                            have c71b0 : decide ((rd x10_8 x17_8) < 0) = true := decide_eq_true c71
                                                                            clear c71
                                                                            have H' := Aside0.mk H
                                                                            clear H
                                                                            obtain ⟨Ao72, co72, eo72⟩ := Kd.R_slice HO_10.out
                                                                            subst eo72
                                                                            have p134 : 0 ≤ (x17_8 : Int) := of_decide_eq_true (by first | (with_reducible assumption) | assumption)
                                                                            have q134 : x17_8 < (x10_8.length : Int) := of_decide_eq_true (by first | (with_reducible assumption) | assumption)
                                                                            obtain ⟨ad134, e134, hx134_0⟩ := Kd.at_int (Kd.R_reads' HO_10.out).2.2 x17_8 p134 q134
                                                                            cases e134
                                                                            replace p134 := eq_true p134
                                                                            replace q134 := eq_true q134
                                                                            go_wp2
                                                                            go_meet
                                                                            case rel => exact ⟨_, (true), (by first | rfl | (simp; done) | (simp [*]; done)), H', ⟨by have := HJ3.out; have := HK2.out; have := HK3.out; have := HK4.out; have := HK5.out; have := HK6.out; have := HK7.out; have := HK8.out; have := HJ46.out; have := HJ56.out; first | omega | exact Nat.le_refl _⟩, ⟨by (with_reducible repeat (first | apply Kd.S_alloc | apply Kd.S_drewN | apply Kd.S_drew)); exact HO_9.out⟩, ⟨by (with_reducible repeat (first | apply Kd.R_alloc | apply Kd.R_drewN | apply Kd.R_drew)); exact HO_10.out⟩, ⟨by (with_reducible repeat (first | apply Kd.R_alloc | apply Kd.R_drewN | apply Kd.R_drew)); exact HO_14.out⟩, ⟨by repeat (first | (with_reducible first | exact HB.out | apply below_alloc | apply pw_below_drewN | apply below_drew1) | exact HB.out)⟩⟩
                                                                          · rw [if_neg c71] at H
                                                                            have c71b0 : decide ((rd x10_8 x17_8) < 0) = false := decide_eq_false c71
                                                                            clear c71
                                                                            by_cases c73 : 0 ≤ (rd x10_8 x17_8)
                                                                            · rw [if_pos c73] at H
                                                                              have c73b0 : decide (0 ≤ (rd x10_8 x17_8)) = true := decide_eq_true c73
                                                                              clear c73
                                                                              by_cases c74 : (rd x10_8 x17_8) < (x14_56.length : Int)
                                                                              · rw [if_pos c74] at H
                                                                                have c74b0 : decide ((rd x10_8 x17_8) < (x14_56.length : Int)) = true := decide_eq_true c74
                                                                                clear c74
                                                                                have H' := Aside0.mk H
                                                                                clear H
                                                                                obtain ⟨Ao75, co75, eo75⟩ := Kd.R_slice HO_10.out
                                                                                subst eo75
                                                                                have p134 : 0 ≤ (x17_8 : Int) := of_decide_eq_true (by first | (with_reducible assumption) | assumption)
                                                                                have q134 : x17_8 < (x10_8.length : Int) := of_decide_eq_true (by first | (with_reducible assumption) | assumption)
                                                                                obtain ⟨ad134, e134, hx134_0⟩ := Kd.at_int (Kd.R_reads' HO_10.out).2.2 x17_8 p134 q134
                                                                                cases e134
                                                                                replace p134 := eq_true p134
                                                                                replace q134 := eq_true q134
                                                                                have p135 : 0 ≤ (x17_8 : Int) := of_decide_eq_true (by first | (with_reducible assumption) | assumption)
                                                                                have q135 : x17_8 < (x10_8.length : Int) := of_decide_eq_true (by first | (with_reducible assumption) | assumption)
                                                                                obtain ⟨ad135, e135, hx135_0⟩ := Kd.at_int (Kd.R_reads' HO_10.out).2.2 x17_8 p135 q135
                                                                                obtain rfl : ad134 = ad135 := (by injection e135)
                                                                                replace p135 := eq_true p135
                                                                                replace q135 := eq_true q135
                                                                                obtain ⟨Ao76, co76, eo76⟩ := Kd.R_slice HO_14.out
                                                                                subst eo76
                                                                                have p136 : 0 ≤ ((rd x10_8 x17_8) : Int) := of_decide_eq_true (by first | (with_reducible assumption) | assumption)
                                                                                have q136 : (rd x10_8 x17_8) < (x14_56.length : Int) := of_decide_eq_true (by first | (with_reducible assumption) | assumption)
                                                                                obtain ⟨ad136, e136, hx136_0⟩ := Kd.at_int (Kd.R_reads' HO_14.out).2.2 (rd x10_8 x17_8) p136 q136
                                                                                cases e136
                                                                                replace p136 := eq_true p136
                                                                                replace q136 := eq_true q136
                                                                                go_wp2
                                                                                go_meet
                                                                                case rel => exact ⟨_, (((rd x14_56 (rd x10_8 x17_8)) != x17_8)), (by first | rfl | (simp; done) | (simp [*]; done)), H', ⟨by have := HJ3.out; have := HK2.out; have := HK3.out; have := HK4.out; have := HK5.out; have := HK6.out; have := HK7.out; have := HK8.out; have := HJ46.out; have := HJ56.out; first | omega | exact Nat.le_refl _⟩, ⟨by (with_reducible repeat (first | apply Kd.S_alloc | apply Kd.S_drewN | apply Kd.S_drew)); exact HO_9.out⟩, ⟨by (with_reducible repeat (first | apply Kd.R_alloc | apply Kd.R_drewN | apply Kd.R_drew)); exact HO_10.out⟩, ⟨by (with_reducible repeat (first | apply Kd.R_alloc | apply Kd.R_drewN | apply Kd.R_drew)); exact HO_14.out⟩, ⟨by repeat (first | (with_reducible first | exact HB.out | apply below_alloc | apply pw_below_drewN | apply below_drew1) | exact HB.out)⟩⟩
                                                                              · rw [if_neg c74] at H
                                                                                exact absurd H (by simp)
                                                                            · rw [if_neg c73] at H
                                                                              exact absurd H (by simp)
                                                                        · rw [if_neg c70] at H
                                                                          exact absurd H (by simp)
                                                                      · rw [if_neg c69] at H
                                                                        exact absurd H (by simp)
                                                                    · rw [if_neg c68] at H
                                                                      have c68b0 : (x16_7 == 1) = false := beq_eq_false_iff_ne.mpr c68
                                                                      have c68b1 : (x16_7 != 1) = true := bne_iff_ne.mpr c68
                                                                      (first | rw [c68b0] | (simp only [i64_w, i32_w]; rw [c68b0]) | skip)
                                                                      have H' := Aside0.mk H
                                                                      clear H
                                                                      go_wp2
                                                                      go_meet
                                                                      case rel => exact ⟨_, (false), (by first | rfl | (simp; done) | (simp [*]; done)), H', ⟨by have := HJ3.out; have := HK2.out; have := HK3.out; have := HK4.out; have := HK5.out; have := HK6.out; have := HK7.out; have := HK8.out; have := HJ46.out; have := HJ56.out; first | omega | exact Nat.le_refl _⟩, ⟨by (with_reducible repeat (first | apply Kd.S_alloc | apply Kd.S_drewN | apply Kd.S_drew)); exact HO_9.out⟩, ⟨by (with_reducible repeat (first | apply Kd.R_alloc | apply Kd.R_drewN | apply Kd.R_drew)); exact HO_10.out⟩, ⟨by (with_reducible repeat (first | apply Kd.R_alloc | apply Kd.R_drewN | apply Kd.R_drew)); exact HO_14.out⟩, ⟨by repeat (first | (with_reducible first | exact HB.out | apply below_alloc | apply pw_below_drewN | apply below_drew1) | exact HB.out)⟩⟩
                                                                  case rest =>
                                                                    clear HC67
                                                                    try clear c1
                                                                    try clear p1
                                                                    try clear q1
                                                                    try clear hx1
                                                                    try clear c2
                                                                    try clear p2
                                                                    try clear c3
                                                                    try clear c4
                                                                    try clear c5
                                                                    try clear c6
                                                                    try clear p6
                                                                    try clear q6
                                                                    try clear hx6
                                                                    try clear hf6
                                                                    try clear c7
                                                                    try clear c8
                                                                    try clear c9
                                                                    try clear c9b0
                                                                    try clear c9b1
                                                                    try clear c10
                                                                    try clear p10
                                                                    try clear q10
                                                                    try clear hx10
                                                                    try clear c11
                                                                    try clear c11b0
                                                                    try clear c12
                                                                    try clear c12b0
                                                                    try clear p12
                                                                    try clear q12
                                                                    try clear hx12
                                                                    try clear p13
                                                                    try clear q13
                                                                    try clear hx13
                                                                    try clear c14
                                                                    try clear c14b0
                                                                    try clear c14b1
                                                                    try clear c17
                                                                    try clear c19
                                                                    try clear c19b0
                                                                    try clear c22
                                                                    try clear c24
                                                                    try clear c24b0
                                                                    try clear c25
                                                                    try clear c30
                                                                    try clear c30b0
                                                                    try clear c31
                                                                    try clear c33
                                                                    try clear c33b0
                                                                    try clear c36
                                                                    try clear c36b0
                                                                    try clear c37
                                                                    try clear c39
                                                                    try clear c39b0
                                                                    try clear c40
                                                                    try clear c40b0
                                                                    try clear c41
                                                                    try clear c41b0
                                                                    try clear c42
                                                                    try clear c42b0
                                                                    try clear c44
                                                                    try clear c44b0
                                                                    try clear c44b1
                                                                    try clear c46
                                                                    try clear c46b0
                                                                    try clear c46b1
                                                                    try clear c48
                                                                    try clear c48b0
                                                                    try clear c48b1
                                                                    try clear c49
                                                                    try clear c49b0
                                                                    try clear c50
                                                                    try clear c50b0
                                                                    try clear c51
                                                                    try clear c51b0
                                                                    try clear c52
                                                                    try clear c52b0
                                                                    try clear c53
                                                                    try clear c53b0
                                                                    try clear c58
                                                                    try clear c59
                                                                    try clear c59b0
                                                                    try clear c60
                                                                    try clear c60b0
                                                                    try clear c61
                                                                    try clear c61b0
                                                                    try clear c62
                                                                    try clear c62b0
                                                                    try clear p63
                                                                    try clear q63
                                                                    try clear hx63
                                                                    try clear hf63
                                                                    try clear p64
                                                                    try clear c68
                                                                    try clear c68b0
                                                                    try clear c68b1
                                                                    try clear c69
                                                                    try clear c69b0
                                                                    try clear c70
                                                                    try clear c70b0
                                                                    try clear c71
                                                                    try clear c71b0
                                                                    try clear c73
                                                                    try clear c73b0
                                                                    try clear c74
                                                                    try clear c74b0
                                                                    try clear hx103_0
                                                                    try clear hx105_0
                                                                    try clear hx128_0
                                                                    try clear hx129_0
                                                                    try clear hx130_0
                                                                    try clear hx131_0
                                                                    try clear hx132_0
                                                                    try clear hx134_0
                                                                    try clear hx135_0
                                                                    try clear hx136_0
                                                                    try clear hx63_0
                                                                    try clear p1
                                                                    try clear p10
                                                                    try clear p103
                                                                    try clear p105
                                                                    try clear p12
                                                                    try clear p128
                                                                    try clear p129
                                                                    try clear p13
                                                                    try clear p130
                                                                    try clear p131
                                                                    try clear p132
                                                                    try clear p134
                                                                    try clear p135
                                                                    try clear p136
                                                                    try clear p2
                                                                    try clear p6
                                                                    try clear p63
                                                                    try clear p64
                                                                    try clear q1
                                                                    try clear q10
                                                                    try clear q103
                                                                    try clear q105
                                                                    try clear q12
                                                                    try clear q128
                                                                    try clear q129
                                                                    try clear q13
                                                                    try clear q130
                                                                    try clear q131
                                                                    try clear q132
                                                                    try clear q134
                                                                    try clear q135
                                                                    try clear q136
                                                                    try clear q6
                                                                    try clear q63
                                                                    obtain ⟨kq, x160_66, rfl, HA, HJ66, HO_9, HO_10, HO_14, HB⟩ := hcut
                                                                    cases kq with
                                                                    | zero => exact absurd HA.out (by simp [spec_PutSets.j10])
                                                                    | succ kj66 =>
                                                                      have H := HA.out
                                                                      clear HA
                                                                      simp only [spec_PutSets.j10] at H
                                                                      by_cases c77 : x160_66 = true
                                                                      · subst c77
                                                                        have H1 : (spec_PutSets.l7 kj66 a0 a1 l2 x9_5 x10_8 x13_5 x14_56 x16_7 x17_8 0) = some (r1, r2) := by rw [if_pos rfl] at H; exact H
                                                                        clear H
                                                                        have H := H1
                                                                        clear H1
                                                                        have H' := Aside0.mk H
                                                                        clear H
                                                                        go_wp2
                                                                        go_loopg [18] kj66 (fun kq v18 w' => ∃ (x18_12 : Int), v18 = .int .i64 x18_12 ∧ Aside0 (spec_PutSets.l7 kq a0 a1 l2 x9_5 x10_8 x13_5 x14_56 x16_7 x17_8 x18_12 = some (r1, r2)) ∧ Aside0 (kq ≤ kj66) ∧ Aside0 (Kd.S (Kd.slice 2 (Kd.int .i64)) 22 w' w.heap.size (fun k_ => some k_ ≠ (u10 : Value).ownBlock ∧ some k_ ≠ (u14 : Value).ownBlock) u9 x9_5) ∧ Aside0 (Kd.R (Kd.int .i64) 2 w' w.heap.size (fun k_ => some k_ ≠ (u14 : Value).ownBlock) u10 x10_8) ∧ Aside0 (Kd.R (Kd.int .i64) 2 w' w.heap.size (fun k_ => some k_ ≠ (u10 : Value).ownBlock) u14 x14_56) ∧ Aside0 (Below w.heap.size w w'))
                                                                        case atStart => exact ⟨(0), (by first | rfl | (simp; done) | (simp [*]; done)), H', ⟨Nat.le_refl _⟩, ⟨by (with_reducible repeat (first | apply Kd.S_alloc | apply Kd.S_drewN | apply Kd.S_drew)); exact HO_9.out⟩, ⟨by (with_reducible repeat (first | apply Kd.R_alloc | apply Kd.R_drewN | apply Kd.R_drew)); exact HO_10.out⟩, ⟨by (with_reducible repeat (first | apply Kd.R_alloc | apply Kd.R_drewN | apply Kd.R_drew)); exact HO_14.out⟩, ⟨by repeat (first | (with_reducible first | exact HB.out | apply below_alloc | apply pw_below_drewN | apply below_drew1) | exact HB.out)⟩⟩
                                                                        case round =>
                                                                          clear H'
                                                                          try clear c1
                                                                          try clear p1
                                                                          try clear q1
                                                                          try clear hx1
                                                                          try clear c2
                                                                          try clear p2
                                                                          try clear c3
                                                                          try clear c4
                                                                          try clear c5
                                                                          try clear c6
                                                                          try clear p6
                                                                          try clear q6
                                                                          try clear hx6
                                                                          try clear hf6
                                                                          try clear c7
                                                                          try clear c8
                                                                          try clear c9
                                                                          try clear c9b0
                                                                          try clear c9b1
                                                                          try clear c10
                                                                          try clear p10
                                                                          try clear q10
                                                                          try clear hx10
                                                                          try clear c11
                                                                          try clear c11b0
                                                                          try clear c12
                                                                          try clear c12b0
                                                                          try clear p12
                                                                          try clear q12
                                                                          try clear hx12
                                                                          try clear p13
                                                                          try clear q13
                                                                          try clear hx13
                                                                          try clear c14
                                                                          try clear c14b0
                                                                          try clear c14b1
                                                                          try clear c17
                                                                          try clear c19
                                                                          try clear c19b0
                                                                          try clear c22
                                                                          try clear c24
                                                                          try clear c24b0
                                                                          try clear c25
                                                                          try clear c30
                                                                          try clear c30b0
                                                                          try clear c31
                                                                          try clear c33
                                                                          try clear c33b0
                                                                          try clear c36
                                                                          try clear c36b0
                                                                          try clear c37
                                                                          try clear c39
                                                                          try clear c39b0
                                                                          try clear c40
                                                                          try clear c40b0
                                                                          try clear c41
                                                                          try clear c41b0
                                                                          try clear c42
                                                                          try clear c42b0
                                                                          try clear c44
                                                                          try clear c44b0
                                                                          try clear c44b1
                                                                          try clear c46
                                                                          try clear c46b0
                                                                          try clear c46b1
                                                                          try clear c48
                                                                          try clear c48b0
                                                                          try clear c48b1
                                                                          try clear c49
                                                                          try clear c49b0
                                                                          try clear c50
                                                                          try clear c50b0
                                                                          try clear c51
                                                                          try clear c51b0
                                                                          try clear c52
                                                                          try clear c52b0
                                                                          try clear c53
                                                                          try clear c53b0
                                                                          try clear c58
                                                                          try clear c59
                                                                          try clear c59b0
                                                                          try clear c60
                                                                          try clear c60b0
                                                                          try clear c61
                                                                          try clear c61b0
                                                                          try clear c62
                                                                          try clear c62b0
                                                                          try clear p63
                                                                          try clear q63
                                                                          try clear hx63
                                                                          try clear hf63
                                                                          try clear p64
                                                                          try clear c68
                                                                          try clear c68b0
                                                                          try clear c68b1
                                                                          try clear c69
                                                                          try clear c69b0
                                                                          try clear c70
                                                                          try clear c70b0
                                                                          try clear c71
                                                                          try clear c71b0
                                                                          try clear c73
                                                                          try clear c73b0
                                                                          try clear c74
                                                                          try clear c74b0
                                                                          try clear c77
                                                                          try clear hx103_0
                                                                          try clear hx105_0
                                                                          try clear hx128_0
                                                                          try clear hx129_0
                                                                          try clear hx130_0
                                                                          try clear hx131_0
                                                                          try clear hx132_0
                                                                          try clear hx134_0
                                                                          try clear hx135_0
                                                                          try clear hx136_0
                                                                          try clear hx63_0
                                                                          try clear p1
                                                                          try clear p10
                                                                          try clear p103
                                                                          try clear p105
                                                                          try clear p12
                                                                          try clear p128
                                                                          try clear p129
                                                                          try clear p13
                                                                          try clear p130
                                                                          try clear p131
                                                                          try clear p132
                                                                          try clear p134
                                                                          try clear p135
                                                                          try clear p136
                                                                          try clear p2
                                                                          try clear p6
                                                                          try clear p63
                                                                          try clear p64
                                                                          try clear q1
                                                                          try clear q10
                                                                          try clear q103
                                                                          try clear q105
                                                                          try clear q12
                                                                          try clear q128
                                                                          try clear q129
                                                                          try clear q13
                                                                          try clear q130
                                                                          try clear q131
                                                                          try clear q132
                                                                          try clear q134
                                                                          try clear q135
                                                                          try clear q136
                                                                          try clear q6
                                                                          try clear q63
                                                                          obtain ⟨x18_12, rfl, HA, HK12, HO_9, HO_10, HO_14, HB⟩ := hrel
                                                                          cases gk with
                                                                          | zero => exact absurd HA.out (by simp [spec_PutSets.l7])
                                                                          | succ k12 =>
                                                                            have H := HA.out
                                                                            clear HA
                                                                            simp only [spec_PutSets.l7] at H
                                                                            by_cases c78 : 0 ≤ x18_12
                                                                            · rw [if_pos c78] at H
                                                                              have c78b0 : decide (0 ≤ x18_12) = true := decide_eq_true c78
                                                                              clear c78
                                                                              by_cases c79 : x18_12 < (x14_56.length : Int)
                                                                              · rw [if_pos c79] at H
                                                                                have c79b0 : decide (x18_12 < (x14_56.length : Int)) = true := decide_eq_true c79
                                                                                clear c79
                                                                                by_cases c80 : (rd x14_56 x18_12) ≥ 0
                                                                                · rw [if_pos c80] at H
                                                                                  have c80b0 : decide (0 ≤ (rd x14_56 x18_12)) = true := decide_eq_true c80
                                                                                  clear c80
                                                                                  have H' := Aside0.mk H
                                                                                  clear H
                                                                                  obtain ⟨Ao81, co81, eo81⟩ := Kd.R_slice HO_14.out
                                                                                  subst eo81
                                                                                  have p137 : 0 ≤ (x18_12 : Int) := of_decide_eq_true (by first | (with_reducible assumption) | assumption)
                                                                                  have q137 : x18_12 < (x14_56.length : Int) := of_decide_eq_true (by first | (with_reducible assumption) | assumption)
                                                                                  obtain ⟨ad137, e137, hx137_0⟩ := Kd.at_int (Kd.R_reads' HO_14.out).2.2 x18_12 p137 q137
                                                                                  cases e137
                                                                                  replace p137 := eq_true p137
                                                                                  replace q137 := eq_true q137
                                                                                  go_wp2
                                                                                  go_roundg k12
                                                                                  case measure => have := HJ3.out; have := HK2.out; have := HK3.out; have := HK4.out; have := HK5.out; have := HK6.out; have := HK7.out; have := HK8.out; have := HJ46.out; have := HJ56.out; have := HJ66.out; have := HK12.out; omega
                                                                                  case rel => exact ⟨(wrap64 (x18_12 + 1)), (by first | rfl | (simp; done) | (simp [*]; done)), H', ⟨by have := HJ3.out; have := HK2.out; have := HK3.out; have := HK4.out; have := HK5.out; have := HK6.out; have := HK7.out; have := HK8.out; have := HJ46.out; have := HJ56.out; have := HJ66.out; have := HK12.out; omega⟩, ⟨by (with_reducible repeat (first | apply Kd.S_alloc | apply Kd.S_drewN | apply Kd.S_drew)); exact HO_9.out⟩, ⟨by (with_reducible repeat (first | apply Kd.R_alloc | apply Kd.R_drewN | apply Kd.R_drew)); exact HO_10.out⟩, ⟨by (with_reducible repeat (first | apply Kd.R_alloc | apply Kd.R_drewN | apply Kd.R_drew)); exact HO_14.out⟩, ⟨by repeat (first | (with_reducible first | exact HB.out | apply below_alloc | apply pw_below_drewN | apply below_drew1) | exact HB.out)⟩⟩
                                                                                · rw [if_neg c80] at H
                                                                                  have c80b0 : decide (0 ≤ (rd x14_56 x18_12)) = false := decide_eq_false c80
                                                                                  clear c80
                                                                                  obtain ⟨y138, hy138⟩ : ∃ y_ : List Int, y_ = (x14_56.set (x18_12 : Int).toNat x17_8) := ⟨_, rfl⟩
                                                                                  replace H : (if 0 ≤ x17_8 then (if x17_8 < (x10_8.length : Int) then (spec_PutSets.l6 k12 a0 a1 l2 x9_5 (x10_8.set (x17_8 : Int).toNat x18_12) x13_5 y138 x16_7 (wrap64 (x17_8 + 1))) else (none)) else (none)) = some (r1, r2) := by first | (rw [hy138]; with_reducible exact H) | (have H2_ := (Option.bind_some _ _).symm.trans H; rw [hy138]; with_reducible exact H2_) | (have H2_ := (Option.bind_some _ _).symm.trans H; with_reducible exact H2_) | with_reducible exact H | (rw [hy138]; exact H) | exact H
                                                                                  have Ny138 := Aside0.mk hy138
                                                                                  clear hy138
                                                                                  by_cases c83 : 0 ≤ x17_8
                                                                                  · rw [if_pos c83] at H
                                                                                    have c83b0 : decide (0 ≤ x17_8) = true := decide_eq_true c83
                                                                                    clear c83
                                                                                    by_cases c84 : x17_8 < (x10_8.length : Int)
                                                                                    · rw [if_pos c84] at H
                                                                                      have c84b0 : decide (x17_8 < (x10_8.length : Int)) = true := decide_eq_true c84
                                                                                      clear c84
                                                                                      obtain ⟨y139, hy139⟩ : ∃ y_ : List Int, y_ = (x10_8.set (x17_8 : Int).toNat x18_12) := ⟨_, rfl⟩
                                                                                      replace H : (spec_PutSets.l6 k12 a0 a1 l2 x9_5 y139 x13_5 y138 x16_7 (wrap64 (x17_8 + 1))) = some (r1, r2) := by first | (rw [hy139]; with_reducible exact H) | (have H2_ := (Option.bind_some _ _).symm.trans H; rw [hy139]; with_reducible exact H2_) | (have H2_ := (Option.bind_some _ _).symm.trans H; with_reducible exact H2_) | with_reducible exact H | (rw [hy139]; exact H) | exact H
                                                                                      have Ny139 := Aside0.mk hy139
                                                                                      clear hy139
                                                                                      have H' := Aside0.mk H
                                                                                      clear H
                                                                                      obtain ⟨Ao86, co86, eo86⟩ := Kd.R_slice HO_14.out
                                                                                      subst eo86
                                                                                      have p137 : 0 ≤ (x18_12 : Int) := of_decide_eq_true (by first | (with_reducible assumption) | assumption)
                                                                                      have q137 : x18_12 < (x14_56.length : Int) := of_decide_eq_true (by first | (with_reducible assumption) | assumption)
                                                                                      obtain ⟨ad137, e137, hx137_0⟩ := Kd.at_int (Kd.R_reads' HO_14.out).2.2 x18_12 p137 q137
                                                                                      cases e137
                                                                                      replace p137 := eq_true p137
                                                                                      replace q137 := eq_true q137
                                                                                      have p82 : 0 ≤ (x18_12 : Int) := of_decide_eq_true (by first | (with_reducible assumption) | assumption)
                                                                                      have q82 : (x18_12 : Int) < ((x14_56.length : Int) : Int) := of_decide_eq_true (by first | (with_reducible assumption) | assumption)
                                                                                      obtain ⟨go82, co82, eo82, gb82, gl82, cl82, HG82⟩ := Kd.R_form HO_14.out (by omega)
                                                                                      (first | cases eo82 | (injection eo82 with ea_ en_ ec_; (first | subst ea_ | (injection ea_ with ea_; subst ea_)); subst ec_; clear en_))
                                                                                      have GB82 := Aside0.mk gb82
                                                                                      have GG82 := Aside0.mk HG82
                                                                                      clear gb82 gl82 HG82
                                                                                      (first | simp only [add_plain] at hx137_0 | skip)
                                                                                      obtain ⟨hx82_0, hf82_0⟩ := Kd.R_celln 0 HO_14.out (x18_12 : Int) p82 q82
                                                                                      replace p82 := eq_true p82
                                                                                      replace q82 := eq_true q82
                                                                                      have HP87 := Kd.R_putg HO_14.out (x18_12 : Int) x17_8
                                                                                      go_wp2_with (first | ((with_reducible refine gate_store (t := 2) (p := 171) rfl ?_); refine store_event (t := 2) (p := 171) (v := ?vo_w88) (w1 := (wr.setCell ⟨go82, (x18_12 : Int).toNat, none⟩ (.int .i64 x17_8))) ?hg ?ho ?hn ?hr ?_; (case ho => rfl); (case hg => rfl); (case hn => rfl); (case hr => first | (go_simp; done) | (go_simp; rfl)); intro w88 hw; have hg : wr.grownBy w88 (some go82) := (by rw [hw]; exact HP87.2); have hp_ : Kd.R (Kd.int .i64) 2 w88 w.heap.size (fun k_ => some k_ ≠ (u10 : Value).ownBlock) (.slice (some ⟨go82, 0, none⟩) x14_56.length co86) y138 := (by rw [hw, Ny138.out]; exact HP87.1); clear HP87; have n0_ := Aside0.mk (Kd.S_after (v := (.slice (some ⟨go82, 0, none⟩) x14_56.length co86)) (v1 := (.slice (some ⟨go82, 0, none⟩) x14_56.length co86)) (ok := (fun k_ => some k_ ≠ (u10 : Value).ownBlock)) (by (with_reducible repeat (first | apply Kd.S_alloc | apply Kd.S_drewN | apply Kd.S_drew)); exact HO_9.out) hg (.inl rfl)); have n1_ := Aside0.mk (Kd.R_after (v := (.slice (some ⟨go82, 0, none⟩) x14_56.length co86)) (v1 := (.slice (some ⟨go82, 0, none⟩) x14_56.length co86)) (ok := (fun _ => True)) (by (with_reducible repeat (first | apply Kd.R_alloc | apply Kd.R_drewN | apply Kd.R_drew)); exact Kd.R_mono HO_10.out (fun _ hk => ⟨trivial, hk⟩)) hg (.inl rfl)); have n2_ := Aside0.mk (hp_); have n3_ := Aside0.mk ((by rw [hw]; exact below_set (HB.out) GB82.out : Below w.heap.size w w88)); clear HO_9; clear HO_10; clear HO_14; clear HB; have HO_9 := n0_; have HO_10 := n1_; have HO_14 := n2_; have HB := n3_; clear n0_ n1_ n2_ n3_; clear hg hw hp_; have p85 : 0 ≤ (x17_8 : Int) := of_decide_eq_true (by first | (with_reducible assumption) | assumption); have q85 : (x17_8 : Int) < ((x10_8.length : Int) : Int) := of_decide_eq_true (by first | (with_reducible assumption) | assumption); obtain ⟨go85, co85, eo85, gb85, gl85, cl85, HG85⟩ := Kd.R_form HO_10.out (by omega); (first | cases eo85 | (injection eo85 with ea_ en_ ec_; (first | subst ea_ | (injection ea_ with ea_; subst ea_)); subst ec_; clear en_)); have GB85 := Aside0.mk gb85; have GG85 := Aside0.mk HG85; clear gb85 gl85 HG85; obtain ⟨hx85_0, hf85_0⟩ := Kd.R_celln 0 HO_10.out (x17_8 : Int) p85 q85; replace p85 := eq_true p85; replace q85 := eq_true q85; have n_ := Aside0.mk (Kd.R_mono (ok' := (fun k_ => some k_ ≠ (.slice (some ⟨go82, 0, none⟩) x14_56.length co86 : Value).ownBlock)) HO_10.out (fun k_ hk => hk.2)); clear HO_10; have HO_10 := n_; clear n_; obtain ⟨hy89_, hz89_⟩ := Kd.R_celln 0 HO_10.out (x17_8 : Int) (of_decide_eq_true (by first | (with_reducible assumption) | assumption)) (of_decide_eq_true (by first | (with_reducible assumption) | assumption)); have HP89 := Kd.R_putg HO_10.out (x17_8 : Int) x18_12) | ((with_reducible refine gate_store (t := 2) (p := 175) rfl ?_); refine store_event (t := 2) (p := 175) (v := ?vo_w90) (w1 := (w88.setCell ⟨go85, (x17_8 : Int).toNat, none⟩ (.int .i64 x18_12))) ?hg ?ho ?hn ?hr ?_; (case ho => rfl); (case hg => rfl); (case hn => rfl); (case hr => first | (go_simp; done) | (go_simp; rfl)); intro w90 hw; have hg : w88.grownBy w90 (some go85) := (by rw [hw]; exact HP89.2); have hp_ : Kd.R (Kd.int .i64) 2 w90 w.heap.size (fun k_ => some k_ ≠ (.slice (some ⟨go82, 0, none⟩) x14_56.length co86 : Value).ownBlock) (.slice (some ⟨go85, 0, none⟩) x10_8.length co85) y139 := (by rw [hw, Ny139.out]; exact HP89.1); clear HP89; have n0_ := Aside0.mk (Kd.S_after (v := (.slice (some ⟨go85, 0, none⟩) x10_8.length co85)) (v1 := (.slice (some ⟨go85, 0, none⟩) x10_8.length co85)) (ok := (fun k_ => some k_ ≠ (.slice (some ⟨go82, 0, none⟩) x14_56.length co86 : Value).ownBlock)) (by (with_reducible repeat (first | apply Kd.S_alloc | apply Kd.S_drewN | apply Kd.S_drew)); exact Kd.S_mono HO_9.out (fun _ hk => ⟨hk.2, hk.1⟩)) hg (.inl rfl)); have n1_ := Aside0.mk (hp_); have n2_ := Aside0.mk (Kd.R_after (v := (.slice (some ⟨go85, 0, none⟩) x10_8.length co85)) (v1 := (.slice (some ⟨go85, 0, none⟩) x10_8.length co85)) (ok := (fun _ => True)) (by (with_reducible repeat (first | apply Kd.R_alloc | apply Kd.R_drewN | apply Kd.R_drew)); exact Kd.R_mono HO_14.out (fun _ hk => ⟨trivial, hk⟩)) hg (.inl rfl)); have n3_ := Aside0.mk ((by rw [hw]; exact below_set (HB.out) GB85.out : Below w.heap.size w w90)); clear HO_9; clear HO_10; clear HO_14; clear HB; have HO_9 := n0_; have HO_10 := n1_; have HO_14 := n2_; have HB := n3_; clear n0_ n1_ n2_ n3_; clear hg hw hp_))
                                                                                      go_roundg k12
                                                                                      case measure => have := HJ3.out; have := HK2.out; have := HK3.out; have := HK4.out; have := HK5.out; have := HK6.out; have := HK7.out; have := HK8.out; have := HJ46.out; have := HJ56.out; have := HJ66.out; have := HK12.out; omega
                                                                                      case rel => exact ⟨(y139), (y138), (wrap64 (x17_8 + 1)), (by first | rfl | (simp; done) | (simp [*]; done)), H', ⟨by have := HJ3.out; have := HK2.out; have := HK3.out; have := HK4.out; have := HK5.out; have := HK6.out; have := HK7.out; have := HK8.out; have := HJ46.out; have := HJ56.out; have := HJ66.out; have := HK12.out; omega⟩, ⟨by (with_reducible repeat (first | apply Kd.S_alloc | apply Kd.S_drewN | apply Kd.S_drew)); exact Kd.S_mono HO_9.out (fun _ hk => ⟨hk.2, hk.1⟩)⟩, ⟨by (with_reducible repeat (first | apply Kd.R_alloc | apply Kd.R_drewN | apply Kd.R_drew)); exact HO_10.out⟩, ⟨by (with_reducible repeat (first | apply Kd.R_alloc | apply Kd.R_drewN | apply Kd.R_drew)); exact Kd.R_mono HO_14.out (fun _ hk => hk.2)⟩, ⟨by repeat (first | (with_reducible first | exact HB.out | apply below_alloc | apply pw_below_drewN | apply below_drew1) | exact HB.out)⟩⟩
                                                                                    · rw [if_neg c84] at H
                                                                                      exact absurd H (by simp)
                                                                                  · rw [if_neg c83] at H
                                                                                    exact absurd H (by simp)
                                                                              · rw [if_neg c79] at H
                                                                                exact absurd H (by simp)
                                                                            · rw [if_neg c78] at H
                                                                              exact absurd H (by simp)
                                                                      · replace c77 := Bool.eq_false_iff.mpr c77
                                                                        subst c77
                                                                        have H1 : (spec_PutSets.l6 kj66 a0 a1 l2 x9_5 x10_8 x13_5 x14_56 x16_7 (wrap64 (x17_8 + 1))) = some (r1, r2) := by rw [if_neg (show ¬ (false = true) by decide)] at H; exact H
                                                                        clear H
                                                                        have H := H1
                                                                        clear H1
                                                                        have H' := Aside0.mk H
                                                                        clear H
                                                                        go_wp2
                                                                        go_roundg kj66
                                                                        case measure => have := HJ3.out; have := HK2.out; have := HK3.out; have := HK4.out; have := HK5.out; have := HK6.out; have := HK7.out; have := HK8.out; have := HJ46.out; have := HJ56.out; have := HJ66.out; omega
                                                                        case rel => exact ⟨(x10_8), (x14_56), (wrap64 (x17_8 + 1)), (by first | rfl | (simp; done) | (simp [*]; done)), H', ⟨by have := HJ3.out; have := HK2.out; have := HK3.out; have := HK4.out; have := HK5.out; have := HK6.out; have := HK7.out; have := HK8.out; have := HJ46.out; have := HJ56.out; have := HJ66.out; omega⟩, ⟨by (with_reducible repeat (first | apply Kd.S_alloc | apply Kd.S_drewN | apply Kd.S_drew)); exact HO_9.out⟩, ⟨by (with_reducible repeat (first | apply Kd.R_alloc | apply Kd.R_drewN | apply Kd.R_drew)); exact HO_10.out⟩, ⟨by (with_reducible repeat (first | apply Kd.R_alloc | apply Kd.R_drewN | apply Kd.R_drew)); exact HO_14.out⟩, ⟨by repeat (first | (with_reducible first | exact HB.out | apply below_alloc | apply pw_below_drewN | apply below_drew1) | exact HB.out)⟩⟩
                                                      · rw [if_neg c44] at H
                                                        exact absurd H (by simp)
                                                    · rw [if_neg c42] at H
                                                      exact absurd H (by simp)
                                                  · rw [if_neg c41] at H
                                                    exact absurd H (by simp)
                                                · rw [if_neg c40] at H
                                                  have c40b0 : decide (x17_8 < a0) = false := decide_eq_false c40
                                                  clear c40
                                                  have H' := Aside0.mk H
                                                  clear H
                                                  go_wp2
                                                  go_roundg k8
                                                  case measure => have := HJ3.out; have := HK2.out; have := HK3.out; have := HK4.out; have := HK5.out; have := HK6.out; have := HK7.out; have := HK8.out; omega
                                                  case rel => exact ⟨(x10_8), (x14_8), (wrap64 (x16_7 + 1)), (by first | rfl | (simp; done) | (simp [*]; done)), H', ⟨by have := HJ3.out; have := HK2.out; have := HK3.out; have := HK4.out; have := HK5.out; have := HK6.out; have := HK7.out; have := HK8.out; omega⟩, ⟨by (with_reducible repeat (first | apply Kd.S_alloc | apply Kd.S_drewN | apply Kd.S_drew)); exact HO_9.out⟩, ⟨by (with_reducible repeat (first | apply Kd.R_alloc | apply Kd.R_drewN | apply Kd.R_drew)); exact HO_10.out⟩, ⟨by (with_reducible repeat (first | apply Kd.R_alloc | apply Kd.R_drewN | apply Kd.R_drew)); exact HO_14.out⟩, ⟨by repeat (first | (with_reducible first | exact HB.out | apply below_alloc | apply pw_below_drewN | apply below_drew1) | exact HB.out)⟩⟩
                                          · rw [if_neg c39] at H
                                            have c39b0 : decide (x16_7 < 2) = false := decide_eq_false c39
                                            clear c39
                                            have H' := Aside0.mk H
                                            clear H
                                            obtain ⟨Ao91, co91, eo91⟩ := Kd.S_slice HO_9.out
                                            subst eo91
                                            go_wp2
                                            go_loopg [178] k7 (fun kq v178 w' => ∃ (x9_8 : List (List Int)) (x178_8 : Int), v178 = .int .i64 x178_8 ∧ Aside0 (spec_PutSets.l8 kq a0 a1 l2 x9_8 x10_7 x13_5 x14_7 (x9_5.length : Int) x178_8 = some (r1, r2)) ∧ Aside0 (kq ≤ k7) ∧ Aside0 (Kd.S (Kd.slice 2 (Kd.int .i64)) 22 w' w.heap.size (fun k_ => some k_ ≠ (u10 : Value).ownBlock ∧ some k_ ≠ (u14 : Value).ownBlock) (.slice Ao91 x9_5.length co91) x9_8) ∧ Aside0 (Kd.R (Kd.int .i64) 2 w' w.heap.size (fun k_ => some k_ ≠ (u14 : Value).ownBlock) u10 x10_7) ∧ Aside0 (Kd.R (Kd.int .i64) 2 w' w.heap.size (fun k_ => some k_ ≠ (u10 : Value).ownBlock) u14 x14_7) ∧ Aside0 (Below w.heap.size w w'))
                                            case atStart => exact ⟨(x9_5), (0), (by first | rfl | (simp; done) | (simp [*]; done)), H', ⟨Nat.le_refl _⟩, ⟨by (with_reducible repeat (first | apply Kd.S_alloc | apply Kd.S_drewN | apply Kd.S_drew)); exact HO_9.out⟩, ⟨by (with_reducible repeat (first | apply Kd.R_alloc | apply Kd.R_drewN | apply Kd.R_drew)); exact HO_10.out⟩, ⟨by (with_reducible repeat (first | apply Kd.R_alloc | apply Kd.R_drewN | apply Kd.R_drew)); exact HO_14.out⟩, ⟨by repeat (first | (with_reducible first | exact HB.out | apply below_alloc | apply pw_below_drewN | apply below_drew1) | exact HB.out)⟩⟩
                                            case round =>
                                              clear H'
                                              try clear c1
                                              try clear p1
                                              try clear q1
                                              try clear hx1
                                              try clear c2
                                              try clear p2
                                              try clear c3
                                              try clear c4
                                              try clear c5
                                              try clear c6
                                              try clear p6
                                              try clear q6
                                              try clear hx6
                                              try clear hf6
                                              try clear c7
                                              try clear c8
                                              try clear p8
                                              try clear q8
                                              try clear hx8
                                              try clear hf8
                                              try clear c9
                                              try clear c9b0
                                              try clear c9b1
                                              try clear c10
                                              try clear p10
                                              try clear q10
                                              try clear hx10
                                              try clear c11
                                              try clear c11b0
                                              try clear c12
                                              try clear c12b0
                                              try clear p12
                                              try clear q12
                                              try clear hx12
                                              try clear p13
                                              try clear q13
                                              try clear hx13
                                              try clear c14
                                              try clear c14b0
                                              try clear c14b1
                                              try clear c17
                                              try clear c19
                                              try clear c19b0
                                              try clear c22
                                              try clear c24
                                              try clear c24b0
                                              try clear c25
                                              try clear c30
                                              try clear c30b0
                                              try clear c31
                                              try clear c33
                                              try clear c33b0
                                              try clear c36
                                              try clear c36b0
                                              try clear c37
                                              try clear c39
                                              try clear c39b0
                                              try clear c40
                                              try clear c40b0
                                              try clear c41
                                              try clear c41b0
                                              try clear c42
                                              try clear c42b0
                                              try clear c44
                                              try clear c44b0
                                              try clear c44b1
                                              try clear c46
                                              try clear c46b0
                                              try clear c46b1
                                              try clear c48
                                              try clear c48b0
                                              try clear c48b1
                                              try clear c49
                                              try clear c49b0
                                              try clear c50
                                              try clear c50b0
                                              try clear c51
                                              try clear c51b0
                                              try clear c52
                                              try clear c52b0
                                              try clear c53
                                              try clear c53b0
                                              try clear c58
                                              try clear c59
                                              try clear c59b0
                                              try clear c60
                                              try clear c60b0
                                              try clear c61
                                              try clear c61b0
                                              try clear c62
                                              try clear c62b0
                                              try clear p63
                                              try clear q63
                                              try clear hx63
                                              try clear hf63
                                              try clear p64
                                              try clear c68
                                              try clear c68b0
                                              try clear c68b1
                                              try clear c69
                                              try clear c69b0
                                              try clear c70
                                              try clear c70b0
                                              try clear c71
                                              try clear c71b0
                                              try clear c73
                                              try clear c73b0
                                              try clear c74
                                              try clear c74b0
                                              try clear c77
                                              try clear c78
                                              try clear c78b0
                                              try clear c79
                                              try clear c79b0
                                              try clear c80
                                              try clear c80b0
                                              try clear p82
                                              try clear q82
                                              try clear hx82
                                              try clear hf82
                                              try clear c83
                                              try clear c83b0
                                              try clear c84
                                              try clear c84b0
                                              try clear p85
                                              try clear q85
                                              try clear hx85
                                              try clear hf85
                                              try clear hx103_0
                                              try clear hx105_0
                                              try clear hx128_0
                                              try clear hx129_0
                                              try clear hx130_0
                                              try clear hx131_0
                                              try clear hx132_0
                                              try clear hx134_0
                                              try clear hx135_0
                                              try clear hx136_0
                                              try clear hx137_0
                                              try clear hx63_0
                                              try clear hx82_0
                                              try clear hx85_0
                                              try clear p1
                                              try clear p10
                                              try clear p103
                                              try clear p105
                                              try clear p12
                                              try clear p128
                                              try clear p129
                                              try clear p13
                                              try clear p130
                                              try clear p131
                                              try clear p132
                                              try clear p134
                                              try clear p135
                                              try clear p136
                                              try clear p137
                                              try clear p2
                                              try clear p6
                                              try clear p63
                                              try clear p64
                                              try clear p82
                                              try clear p85
                                              try clear q1
                                              try clear q10
                                              try clear q103
                                              try clear q105
                                              try clear q12
                                              try clear q128
                                              try clear q129
                                              try clear q13
                                              try clear q130
                                              try clear q131
                                              try clear q132
                                              try clear q134
                                              try clear q135
                                              try clear q136
                                              try clear q137
                                              try clear q6
                                              try clear q63
                                              try clear q82
                                              try clear q85
                                              obtain ⟨x9_8, x178_8, rfl, HA, HK8, HO_9, HO_10, HO_14, HB⟩ := hrel
                                              have hl9_8 := (Kd.S_reads' HO_9.out).1
                                              rw [hl9_8] at HO_9
                                              (try simp only [hl9_8])
                                              (try simp only [hl9_8] at HO_10)
                                              (try simp only [hl9_8] at HO_14)
                                              cases gk with
                                              | zero => exact absurd HA.out (by simp [spec_PutSets.l8])
                                              | succ k8 =>
                                                have H := HA.out
                                                clear HA
                                                simp only [spec_PutSets.l8] at H
                                                by_cases c92 : x178_8 < (x9_5.length : Int)
                                                · rw [if_pos c92] at H
                                                  have c92b0 : decide (x178_8 < (x9_5.length : Int)) = true := decide_eq_true c92
                                                  clear c92
                                                  by_cases c93 : 0 ≤ x178_8
                                                  · rw [if_pos c93] at H
                                                    have c93b0 : decide (0 ≤ x178_8) = true := decide_eq_true c93
                                                    clear c93
                                                    by_cases c94 : x178_8 < (x9_8.length : Int)
                                                    · rw [if_pos c94] at H
                                                      have c94b0 : decide (x178_8 < (x9_8.length : Int)) = true := decide_eq_true c94
                                                      clear c94
                                                      by_cases c95 : x178_8 < (x14_7.length : Int)
                                                      · rw [if_pos c95] at H
                                                        have c95b0 : decide (x178_8 < (x14_7.length : Int)) = true := decide_eq_true c95
                                                        clear c95
                                                        by_cases c96 : (rd_L1 x9_8 x178_8).length < 17592186044416
                                                        · rw [if_pos c96] at H
                                                          have LMc96 := Aside0.mk c96
                                                          clear c96
                                                          obtain ⟨y142, hy142⟩ : ∃ y_ : List Int, y_ = ((rd_L1 x9_8 x178_8) ++ [rd x14_7 x178_8]) := ⟨_, rfl⟩
                                                          replace H : (spec_PutSets.l8 k8 a0 a1 l2 (x9_8.set (x178_8 : Int).toNat y142) x10_7 x13_5 x14_7 (x9_5.length : Int) (wrap64 (x178_8 + 1))) = some (r1, r2) := by first | (rw [hy142]; with_reducible exact H) | (have H2_ := (Option.bind_some _ _).symm.trans H; rw [hy142]; with_reducible exact H2_) | (have H2_ := (Option.bind_some _ _).symm.trans H; with_reducible exact H2_) | with_reducible exact H | (rw [hy142]; exact H) | exact H
                                                          have Ny142 := Aside0.mk hy142
                                                          clear hy142
                                                          obtain ⟨y145, hy145⟩ : ∃ y_ : List (List Int), y_ = (x9_8.set (x178_8 : Int).toNat y142) := ⟨_, rfl⟩
                                                          replace H : (spec_PutSets.l8 k8 a0 a1 l2 y145 x10_7 x13_5 x14_7 (x9_5.length : Int) (wrap64 (x178_8 + 1))) = some (r1, r2) := by first | (rw [hy145]; with_reducible exact H) | (have H2_ := (Option.bind_some _ _).symm.trans H; rw [hy145]; with_reducible exact H2_) | (have H2_ := (Option.bind_some _ _).symm.trans H; with_reducible exact H2_) | with_reducible exact H | (rw [hy145]; exact H) | exact H
                                                          have Ny145 := Aside0.mk hy145
                                                          clear hy145
                                                          have H' := Aside0.mk H
                                                          clear H
                                                          try go_wp2
                                                          have n0_ := Aside0.mk (Kd.S_drew HO_9.out)
                                                          have n1_ := Aside0.mk (Kd.R_drew HO_10.out)
                                                          have n2_ := Aside0.mk (Kd.R_drew HO_14.out)
                                                          have n3_ := Aside0.mk (below_drew1 HB.out)
                                                          clear HO_9
                                                          clear HO_10
                                                          clear HO_14
                                                          clear HB
                                                          have HO_9 := n0_
                                                          have HO_10 := n1_
                                                          have HO_14 := n2_
                                                          have HB := n3_
                                                          clear n0_ n1_ n2_ n3_
                                                          have p140 : 0 ≤ (x178_8 : Int) := of_decide_eq_true (by first | (with_reducible assumption) | assumption)
                                                          have q140 : x178_8 < (x9_8.length : Int) := of_decide_eq_true (by first | (with_reducible assumption) | assumption)
                                                          obtain ⟨ad140, A140_0, c140_0, e140, hx140_0, hl140_0, hi140_0⟩ := at_L1 (Kd.S_reads' HO_9.out).2.2 x178_8 p140 q140
                                                          cases e140
                                                          obtain ⟨ce140, hce140, hMe140, hcc140⟩ := Kd.S_get HO_9.out [] x178_8 p140 (by first | exact q140 | exact of_decide_eq_true (by first | (with_reducible assumption) | assumption) | (have e_ := (Kd.S_reads' HO_9.out).1; omega))
                                                          obtain ⟨ve140_0, rfl, ge140_0⟩ := hMe140
                                                          have hv140_0 := hcc140 0 _ rfl
                                                          rw [Nat.add_zero, show ((Kd.slice 2 (Kd.int .i64))).sz = 1 from rfl, Nat.mul_one] at hv140_0
                                                          replace hv140_0 := Option.some.inj (hv140_0.symm.trans hx140_0)
                                                          rw [hv140_0] at ge140_0
                                                          have HL140_0 := Aside0.mk (show Kd.R (Kd.int .i64) 2 _ _ _ _ (rd_L1 x9_8 x178_8) from ge140_0)
                                                          clear hv140_0 ge140_0
                                                          have HX140_0 := Aside0.mk hx140_0
                                                          clear hcc140 hce140
                                                          have HR140_0 := Aside0.mk hi140_0
                                                          have HC140_0 := Aside0.mk hl140_0
                                                          clear hi140_0 hl140_0
                                                          replace p140 := eq_true p140
                                                          replace q140 := eq_true q140
                                                          obtain ⟨Ao99, co99, eo99⟩ := Kd.R_slice HO_14.out
                                                          (first | subst eo99 | (injection eo99 with f1_ f2_ f3_; have f4_ := f1_.symm; have f5_ := f3_.symm; clear f1_ f2_ f3_; subst f4_; subst f5_))
                                                          have p141 : 0 ≤ (x178_8 : Int) := of_decide_eq_true (by first | (with_reducible assumption) | assumption)
                                                          have q141 : x178_8 < (x14_7.length : Int) := of_decide_eq_true (by first | (with_reducible assumption) | assumption)
                                                          obtain ⟨ad141, e141, hx141_0⟩ := Kd.at_int (Kd.R_reads' HO_14.out).2.2 x178_8 p141 q141
                                                          cases e141
                                                          replace p141 := eq_true p141
                                                          replace q141 := eq_true q141
                                                          obtain ⟨go100, co100, eo100, gb100, gl100, cl100, HG100⟩ := Kd.S_form HO_9.out (by have h_ : (x178_8 : Int) < ((x9_8.length : Int) : Int) := of_decide_eq_true (by first | (with_reducible assumption) | assumption); have h2_ : 0 ≤ (x178_8 : Int) := (of_decide_eq_true (by first | (with_reducible assumption) | assumption)); omega)
                                                          (first | cases eo100 | (injection eo100 with ea_ en_ ec_; (first | subst ea_ | (injection ea_ with ea_; subst ea_)); subst ec_; clear en_))
                                                          have GB100 := Aside0.mk gb100
                                                          have GG100 := Aside0.mk HG100
                                                          clear gb100 gl100 HG100
                                                          (first | simp only [add_plain] at hx140_0 | skip)
                                                          obtain ⟨oki100, ce100, hcl100, hM100, hcc100, _, _, hH100⟩ := Kd.S_elem HO_9.out [] (x178_8 : Int) (of_decide_eq_true (by first | (with_reducible assumption) | assumption)) (by have h_ : (x178_8 : Int) < ((x9_8.length : Int) : Int) := of_decide_eq_true (by first | (with_reducible assumption) | assumption); first | exact h_ | (have e_ := (Kd.S_reads' HO_9.out).1; omega) | simpa using h_)
                                                          obtain ⟨ve100_0, rfl, ge100_0⟩ := hM100
                                                          have hv100 := hcc100 0 _ rfl
                                                          have hX100 := HX140_0.out
                                                          (try simp only [add_plain] at hX100)
                                                          (try simp only [Nat.add_zero] at hv100)
                                                          (try rw [show ((Kd.slice 2 (Kd.int .i64))).sz = 1 from rfl, Nat.mul_one] at hv100)
                                                          replace hv100 := Option.some.inj (hv100.symm.trans hX100)
                                                          subst hv100
                                                          clear hX100 hcc100 hcl100
                                                          have UU100 := Aside0.mk (show Kd.R (Kd.int .i64) 2 _ w.heap.size oki100 (.slice A140_0 (rd_L1 x9_8 x178_8).length c140_0) (rd_L1 x9_8 x178_8) from ge100_0)
                                                          have HH100 := Aside0.mk hH100
                                                          have HN100 := Aside0.mk (Kd.S_reads' HO_9.out).1
                                                          clear hH100 ge100_0
                                                          refine start_ (n := 14) (S := fun w' => w'.cell? ⟨go100, (x178_8).toNat, none⟩ = some (.slice A140_0 (rd_L1 x9_8 x178_8).length c140_0) ∧ w'.cell? (ad141.add (x178_8).toNat) = some (.int .i64 (rd x14_7 x178_8))) (ds := [11, 13]) #[false, false, false, false, false, false, false, false, false, false, false, false, false, false] (by kernel_rfl) rfl rfl ⟨hx140_0, hx141_0⟩ (fun hHeld => ?_); refine with_tabW spec_PutSets.tab43 spec_PutSets.bits43 (fun HT_ HW_ => ?_)
                                                          generalize wr.drew = w98 at HO_9 HO_10 HO_14 HB GG100 HH100 HL140_0 HR140_0 HX140_0 UU100 hx140_0 hx141_0 hHeld ⊢
                                                          refine pure_ (i := 0) (N := some 181) (v := ?_) (a' := ?_) #[true, false, false, false, false, false, false, false, false, false, false, false, false, false] rfl rfl (any_of HT_.out (by kernel_rfl)) (fun _ _ _ h => h) (Or.inl ⟨by rfl, ?_⟩) ?_ ?_
                                                          rotate_left
                                                          · intro w'
                                                            go_simp
                                                            with_reducible rfl
                                                          rotate_left
                                                          · simp only [Act.put, List.setIfInBounds_toArray, List.set_cons_zero, List.set_cons_succ, i64_w, i32_w]
                                                            rfl
                                                          refine pure_ (i := 1) (N := some 182) (v := ?_) (a' := ?_) #[true, true, false, false, false, false, false, false, false, false, false, false, false, false] rfl rfl (any_of HT_.out (by kernel_rfl)) (fun _ _ _ h => h) (Or.inl ⟨by rfl, ?_⟩) ?_ ?_
                                                          rotate_left
                                                          · intro w'
                                                            go_simp
                                                            with_reducible rfl
                                                          rotate_left
                                                          · simp only [Act.put, List.setIfInBounds_toArray, List.set_cons_zero, List.set_cons_succ, i64_w, i32_w]
                                                            rfl
                                                          refine pure_ (i := 2) (N := some 183) (v := ?_) (a' := ?_) #[true, true, true, false, false, false, false, false, false, false, false, false, false, false] rfl rfl (any_of HT_.out (by kernel_rfl)) (fun _ _ _ h => h) (Or.inl ⟨by rfl, ?_⟩) ?_ ?_
                                                          rotate_left
                                                          · intro w'
                                                            go_simp
                                                            with_reducible rfl
                                                          rotate_left
                                                          · simp only [Act.put, List.setIfInBounds_toArray, List.set_cons_zero, List.set_cons_succ, i64_w, i32_w]
                                                            rfl
                                                          refine pure_ (i := 3) (N := some 184) (v := ?_) (a' := ?_) #[true, true, true, true, false, false, false, false, false, false, false, false, false, false] rfl rfl (any_of HT_.out (by kernel_rfl)) (fun _ _ _ h => h) (Or.inl ⟨by rfl, ?_⟩) ?_ ?_
                                                          rotate_left
                                                          · intro w'
                                                            go_simp
                                                            with_reducible rfl
                                                          rotate_left
                                                          · simp only [Act.put, List.setIfInBounds_toArray, List.set_cons_zero, List.set_cons_succ, i64_w, i32_w]
                                                            rfl
                                                          refine pure_ (i := 4) (N := some 185) (v := ?_) (a' := ?_) #[true, true, true, true, true, false, false, false, false, false, false, false, false, false] rfl rfl (any_of HT_.out (by kernel_rfl)) (fun _ _ _ h => h) (Or.inl ⟨by rfl, ?_⟩) ?_ ?_
                                                          rotate_left
                                                          · intro w'
                                                            go_simp
                                                            with_reducible rfl
                                                          rotate_left
                                                          · simp only [Act.put, List.setIfInBounds_toArray, List.set_cons_zero, List.set_cons_succ, i64_w, i32_w]
                                                            rfl
                                                          refine pure_ (i := 6) (N := some 187) (v := ?_) (a' := ?_) #[true, true, true, true, true, false, true, false, false, false, false, false, false, false] rfl rfl (any_of HT_.out (by kernel_rfl)) (fun _ _ _ h => h) (Or.inl ⟨by rfl, ?_⟩) ?_ ?_
                                                          rotate_left
                                                          · intro w'
                                                            go_simp
                                                            with_reducible rfl
                                                          rotate_left
                                                          · simp only [Act.put, List.setIfInBounds_toArray, List.set_cons_zero, List.set_cons_succ, i64_w, i32_w]
                                                            rfl
                                                          refine pure_ (i := 7) (N := some 188) (v := ?_) (a' := ?_) #[true, true, true, true, true, false, true, true, false, false, false, false, false, false] rfl rfl (any_of HT_.out (by kernel_rfl)) (fun _ _ _ h => h) (Or.inl ⟨by rfl, ?_⟩) ?_ ?_
                                                          rotate_left
                                                          · intro w'
                                                            go_simp
                                                            with_reducible rfl
                                                          rotate_left
                                                          · simp only [Act.put, List.setIfInBounds_toArray, List.set_cons_zero, List.set_cons_succ, i64_w, i32_w]
                                                            rfl
                                                          refine pure_ (i := 8) (N := some 189) (v := ?_) (a' := ?_) #[true, true, true, true, true, false, true, true, true, false, false, false, false, false] rfl rfl (any_of HT_.out (by kernel_rfl)) (fun _ _ _ h => h) (Or.inl ⟨by rfl, ?_⟩) ?_ ?_
                                                          rotate_left
                                                          · intro w'
                                                            go_simp
                                                            with_reducible rfl
                                                          rotate_left
                                                          · simp only [Act.put, List.setIfInBounds_toArray, List.set_cons_zero, List.set_cons_succ, i64_w, i32_w]
                                                            rfl
                                                          refine take_ (i := 5) (N := some 186) (v := ?_) (a' := ?_) #[true, true, true, true, true, true, true, true, true, false, false, false, false, false] rfl rfl (take_ofW HT_.out HW_.out (by kernel_rfl)) (fun _ _ _ h => h) (Or.inl ⟨by rfl, ?_⟩) hHeld ?_ ?_
                                                          rotate_left
                                                          · rintro w' ⟨s0, s1⟩
                                                            go_simp
                                                            with_reducible rfl
                                                          rotate_left
                                                          · simp only [Act.put, List.setIfInBounds_toArray, List.set_cons_zero, List.set_cons_succ, i64_w, i32_w]
                                                            rfl
                                                          refine take_ (i := 9) (N := some 190) (v := ?_) (a' := ?_) #[true, true, true, true, true, true, true, true, true, true, false, false, false, false] rfl rfl (take_ofW HT_.out HW_.out (by kernel_rfl)) (fun _ _ _ h => h) (Or.inl ⟨by rfl, ?_⟩) hHeld ?_ ?_
                                                          rotate_left
                                                          · rintro w' ⟨s0, s1⟩
                                                            go_simp
                                                            with_reducible rfl
                                                          rotate_left
                                                          · simp only [Act.put, List.setIfInBounds_toArray, List.set_cons_zero, List.set_cons_succ, i64_w, i32_w]
                                                            rfl
                                                          refine one_ (i := 10) (N := some 191) #[true, true, true, true, true, true, true, true, true, true, true, false, false, false] rfl rfl (one_of HT_.out (by kernel_rfl)) (by decide) (fun K hK => ?_)
                                                          refine value_ (w1 := ?_) (v := ?_) (by rfl) rfl ?_ ?_
                                                          rotate_left 2
                                                          · go_simp
                                                            constructor
                                                            · rfl
                                                            · rfl
                                                          refine hK.out _ _ ⟨(World.cell?_alloc_lt _ _ _ (World.block_lt_of_cell? _ _ (hHeld.1))).trans (hHeld.1), (World.cell?_alloc_lt _ _ _ (World.block_lt_of_cell? _ _ (hHeld.2))).trans (hHeld.2)⟩ (fun hHeld => ?_)
                                                          clear hK K
                                                          refine norm_ (a' := ?_) ?_ ?_
                                                          rotate_left
                                                          · show Act.put _ (some 191) _ = _
                                                            simp only [Act.put, List.setIfInBounds_toArray, List.set_cons_zero, List.set_cons_succ, i64_w, i32_w]
                                                            rfl
                                                          refine last_ (i := 11) (N := some 192) #[true, true, true, true, true, true, true, true, true, true, true, true, false, false] rfl rfl (one_of HT_.out (by kernel_rfl)) (by decide) (fun K hK => ?_)
                                                          refine Kd.R_append_step (Kd.int .i64) (w0 := w) w.heap.size (by rfl) (.tmp 186) (.tmp 191) 22 2 (.int .i64 0) 8 rfl Try.underlying22 info2 rfl (by decide) (by omega) (.slice A140_0 (rd_L1 x9_8 x178_8).length c140_0) (rd_L1 x9_8 x178_8) (rd x14_7 x178_8) [.int .i64 (rd x14_7 x178_8)] (fun k_ => oki100 k_ ∨ ((fun k_ => some k_ ≠ (u10 : Value).ownBlock ∧ some k_ ≠ (.slice (some ad141) x14_7.length co99 : Value).ownBlock)) k_ ∧ w98.heap.size ≤ k_) (fun _ => False) rfl rfl ?aP (fun _ hk => hk.elim) ?aF ?aO ?aB ?aS ?aL ?_
                                                          (case aP => exact rfl)
                                                          (case aB => exact (by repeat (first | (with_reducible first | exact HB.out | apply below_alloc | apply pw_below_drewN | apply below_drew1) | exact HB.out)))
                                                          (case aF => exact (fun k_ hk => .inr ⟨⟨Kd.fresh' (Kd.R_lt (by (with_reducible repeat (first | apply Kd.R_alloc | apply Kd.R_drewN | apply Kd.R_drew)); exact HO_10.out)) k_ hk, Kd.fresh' (Kd.R_lt (by (with_reducible repeat (first | apply Kd.R_alloc | apply Kd.R_drewN | apply Kd.R_drew)); exact HO_14.out)) k_ hk⟩, hk⟩))
                                                          (case aO => exact (by (with_reducible repeat (first | apply Kd.R_alloc | apply Kd.R_drewN | apply Kd.R_drew)); exact Kd.R_mono UU100.out (fun _ hk => .inl hk)))
                                                          (case aS => exact (below_size (by repeat (first | (with_reducible first | exact HB.out | apply below_alloc | apply pw_below_drewN | apply below_drew1) | exact HB.out))))
                                                          (case aL => have := LMc96.out; omega)
                                                          intro v143 w101 ho hb hg hat
                                                          rw [← Ny142.out] at ho
                                                          have n0_ := Aside0.mk (Kd.R_grown2 (by (with_reducible repeat (first | apply Kd.R_alloc | apply Kd.R_drewN | apply Kd.R_drew)); exact HO_10.out) rfl hg (fun k_ e_ => (HL140_0.out.1 k_ e_).1.1))
                                                          have n1_ := Aside0.mk (Kd.R_grown2 (by (with_reducible repeat (first | apply Kd.R_alloc | apply Kd.R_drewN | apply Kd.R_drew)); exact HO_14.out) rfl hg (fun k_ e_ => (HL140_0.out.1 k_ e_).1.2))
                                                          have n2_ := Aside0.mk (hb)
                                                          have n3_ := Aside0.mk (Kd.H_grown (Kd.H_widen (by repeat (first | exact HH100.out | refine Kd.H_alloc ?_ _ | refine Kd.H_drewN ?_ _ | refine Kd.H_drew ?_))) hg (fun k_ e_ => .inl (UU100.out.1 k_ e_)))
                                                          have n4_ := Aside0.mk (ho)
                                                          clear HO_10
                                                          clear HO_14
                                                          clear HB
                                                          clear HH100
                                                          clear HO_9
                                                          clear UU100
                                                          clear HL140_0
                                                          have HO_10 := n0_
                                                          have HO_14 := n1_
                                                          have HB := n2_
                                                          have HH100 := n3_
                                                          have HO144 := n4_
                                                          clear n0_ n1_ n2_ n3_ n4_
                                                          clear ho hb hg hat
                                                          have p97 : 0 ≤ (x178_8 : Int) := of_decide_eq_true (by first | (with_reducible assumption) | assumption)
                                                          have q97 : (x178_8 : Int) < ((x9_8.length : Int) : Int) := of_decide_eq_true (by first | (with_reducible assumption) | assumption)
                                                          replace p97 := eq_true p97
                                                          replace q97 := eq_true q97
                                                          obtain ⟨Ao104, co104, eo104⟩ := Kd.R_slice HO144.out
                                                          (first | subst eo104 | (injection eo104 with f1_ f2_ f3_; have f4_ := f1_.symm; have f5_ := f3_.symm; clear f1_ f2_ f3_; subst f4_; subst f5_))
                                                          obtain ⟨_, _, hraw102, _, _, hcc102, _⟩ := Kd.H_raw HH100.out (of_decide_eq_true (by first | (with_reducible assumption) | assumption)) (by have h_ : (x178_8 : Int) < ((x9_8.length : Int) : Int) := of_decide_eq_true (by first | (with_reducible assumption) | assumption); first | exact h_ | (have e_ := (HN100.out); omega) | simpa using h_)
                                                          obtain ⟨_, hfr102⟩ := Kd.H_at HH100.out (of_decide_eq_true (by first | (with_reducible assumption) | assumption)) (by have h_ : (x178_8 : Int) < ((x9_8.length : Int) : Int) := of_decide_eq_true (by first | (with_reducible assumption) | assumption); first | exact h_ | (have e_ := (HN100.out); omega) | simpa using h_)
                                                          have hx102_0 := hcc102 0 _ rfl
                                                          have hf102_0 := hfr102 0
                                                          (try simp only [Nat.add_zero] at hx102_0 hf102_0)
                                                          (try rw [show ((Kd.slice 2 (Kd.int .i64))).sz = 1 from rfl, Nat.mul_one] at hx102_0)
                                                          (try rw [show ((Kd.slice 2 (Kd.int .i64))).sz = 1 from rfl, Nat.mul_one] at hf102_0)
                                                          have HP102 := Kd.S_seg0 HH100.out (of_decide_eq_true (by first | (with_reducible assumption) | assumption)) (by have h_ : (x178_8 : Int) < ((x9_8.length : Int) : Int) := of_decide_eq_true (by first | (with_reducible assumption) | assumption); first | exact h_ | (have e_ := (HN100.out); omega) | simpa using h_) (seg := [.slice Ao104 y142.length co104]) (j := 0) (show 1 ≤ 1 from by decide) (x' := y142) (Kd.M_row HO144.out) (fun _ hk => hk)
                                                          (try simp only [show ((Kd.slice 2 (Kd.int .i64))).sz = 1 from rfl, Nat.mul_one, Nat.add_zero] at HP102)
                                                          (try clear hcc102); (try clear hfr102)
                                                          have HS102 := HP102.1
                                                          rw [← Ny145.out] at HS102
                                                          have HQ102 := Aside0.mk HS102
                                                          obtain ⟨_, hgg102⟩ := Kd.R_typed hraw102 go100 rfl
                                                          have GG102_ := Aside0.mk hgg102
                                                          clear HP102 HS102 hgg102
                                                          refine hK.out _ _ ?_
                                                          clear hK K
                                                          refine norm_ (a' := ?_) ?_ ?_
                                                          rotate_left
                                                          · show Act.put _ (some 192) _ = _
                                                            simp only [Act.put, List.setIfInBounds_toArray, List.set_cons_zero, List.set_cons_succ, i64_w, i32_w]
                                                            rfl
                                                          refine pure_ (i := 12) (N := some 193) (v := ?_) (a' := ?_) #[true, true, true, true, true, true, true, true, true, true, true, true, true, false] rfl rfl (any_of HT_.out (by kernel_rfl)) (fun _ _ _ h => h) (Or.inl ⟨by rfl, ?_⟩) ?_ ?_
                                                          rotate_left
                                                          · intro w'
                                                            go_simp
                                                            with_reducible rfl
                                                          rotate_left
                                                          · simp only [Act.put, List.setIfInBounds_toArray, List.set_cons_zero, List.set_cons_succ, i64_w, i32_w]
                                                            rfl
                                                          refine last_ (i := 13) (N := none) #[true, true, true, true, true, true, true, true, true, true, true, true, true, true] rfl rfl (one_of HT_.out (by kernel_rfl)) (by decide) (fun K hK => ?_)
                                                          refine skip_ (w1 := ?_) (by rfl) rfl ?_ ?_
                                                          rotate_left
                                                          · go_simp
                                                            rfl
                                                          refine hK.out _ _ ?_
                                                          clear hK K
                                                          refine done_ (done_of HT_.out (by kernel_rfl)) ?_
                                                          try go_wp2
                                                          (try simp only [← hl9_8])
                                                          go_roundg k8
                                                          case measure => have := HJ3.out; have := HK2.out; have := HK3.out; have := HK4.out; have := HK5.out; have := HK6.out; have := HK7.out; have := HK8.out; omega
                                                          case rel => exact ⟨(y145), (wrap64 (x178_8 + 1)), (by first | rfl | (simp; done) | (simp [*]; done)), H', ⟨by have := HJ3.out; have := HK2.out; have := HK3.out; have := HK4.out; have := HK5.out; have := HK6.out; have := HK7.out; have := HK8.out; omega⟩, ⟨by (try simp only [hl9_8]); (with_reducible repeat (first | apply Kd.S_alloc | apply Kd.S_drewN | apply Kd.S_drew)); exact HQ102.out⟩, ⟨by (try simp only [hl9_8]); (with_reducible repeat (first | apply Kd.R_alloc | apply Kd.R_drewN | apply Kd.R_drew)); exact Kd.R_mono (Kd.R_far (p := ⟨go100, (x178_8 : Int).toNat, none⟩) (Kd.R_types HO_10.out GG102_.out (by decide)) (fun _ hk => hk.2) (.slice Ao104 y142.length co104)) (fun _ hk => hk.1)⟩, ⟨by (try simp only [hl9_8]); (with_reducible repeat (first | apply Kd.R_alloc | apply Kd.R_drewN | apply Kd.R_drew)); exact Kd.R_mono (Kd.R_far (p := ⟨go100, (x178_8 : Int).toNat, none⟩) (Kd.R_types HO_14.out GG102_.out (by decide)) (fun _ hk => hk.2) (.slice Ao104 y142.length co104)) (fun _ hk => hk.1)⟩, ⟨by repeat (first | (with_reducible first | exact HB.out | apply below_alloc | apply pw_below_drewN | apply below_drew1 | refine below_set ?_ GB100.out) | exact HB.out)⟩⟩
                                                        · rw [if_neg c96] at H
                                                          exact absurd H (by simp)
                                                      · rw [if_neg c95] at H
                                                        exact absurd H (by simp)
                                                    · rw [if_neg c94] at H
                                                      exact absurd H (by simp)
                                                  · rw [if_neg c93] at H
                                                    exact absurd H (by simp)
                                                · rw [if_neg c92] at H
                                                  have c92b0 : decide (x178_8 < (x9_5.length : Int)) = false := decide_eq_false c92
                                                  (try rw [hl9_8] at c92b0)
                                                  clear c92
                                                  have H' := Aside0.mk H
                                                  clear H
                                                  go_wp2
                                                  (try simp only [← hl9_8])
                                                  go_roundg k8
                                                  case measure => have := HJ3.out; have := HK2.out; have := HK3.out; have := HK4.out; have := HK5.out; have := HK6.out; have := HK7.out; have := HK8.out; omega
                                                  case rel => exact ⟨(x9_8), (x10_7), (wrap64 (x13_5 + 1)), (by first | rfl | (simp; done) | (simp [*]; done)), H', ⟨by have := HJ3.out; have := HK2.out; have := HK3.out; have := HK4.out; have := HK5.out; have := HK6.out; have := HK7.out; have := HK8.out; omega⟩, ⟨by (try simp only [hl9_8]); (with_reducible repeat (first | apply Kd.S_alloc | apply Kd.S_drewN | apply Kd.S_drew)); exact Kd.S_mono HO_9.out (fun _ hk => hk.1)⟩, ⟨by (try simp only [hl9_8]); (with_reducible repeat (first | apply Kd.R_alloc | apply Kd.R_drewN | apply Kd.R_drew)); exact Kd.R_mono HO_10.out (fun _ hk => trivial)⟩, ⟨by repeat (first | (with_reducible first | exact HB.out | apply below_alloc | apply pw_below_drewN | apply below_drew1) | exact HB.out)⟩⟩
                              · rw [if_neg c33] at H
                                have c33b0 : decide (x13_5 < (l2.length : Int)) = false := decide_eq_false c33
                                clear c33
                                simp only [Option.some.injEq, Prod.mk.injEq] at H
                                obtain ⟨rfl, rfl⟩ := H
                                go_wp2
                                go_ret2
                                exact ⟨_, by first | rfl | (simp [errW_none, errW_some] <;> rfl) | (simp [*, errW_none, errW_some] <;> rfl), by (with_reducible repeat (first | apply Kd.S_alloc | apply Kd.S_drewN | apply Kd.S_drew)); exact Kd.S_mono HO_9.out (fun _ hk => trivial), by repeat (first | (with_reducible first | exact HB.out | apply below_alloc | apply pw_below_drewN | apply below_drew1) | exact HB.out)⟩
end Go.Proofs.Ytnmpjikiodnmnaa.P
end
section
namespace Go.Proofs.Ytnmpjikiodnmnaa.P
open Go.RowKit Go.Proofs.YtnmpjikiodnmnaaW.PrintWords Go.Proofs.YtnmpjikiodnmnaaW.PrintLast Go.Proofs.YtnmpjikiodnmnaaW.PrintMore
attribute [local go_sem] max2_int min2_int max_two min_two max_three min_three max_four min_four   -- for this text's walks alone
set_option linter.unusedVariables false
set_option linter.unusedSimpArgs false
end Go.Proofs.Ytnmpjikiodnmnaa.P
end
