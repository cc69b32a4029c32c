/- The program's ClashesOf returns what the reference's returns, for all channels; no condition beside. -/
import Derived.Test.YthcccgeeccjfiaaCFnExactClashesOf2
import Derived.Test.YthcccgeeccjfiaaRows
section
namespace Go.Proofs.Ythcccgeeccjfiaa.P
open Go.RowKit Go.Proofs.YthcccgeeccjfiaaW.PrintWords Go.Proofs.YthcccgeeccjfiaaW.PrintLast Go.Proofs.YthcccgeeccjfiaaW.PrintMore
attribute [local go_sem] max2_int min2_int max_two min_two max_three min_three max_four min_four   -- for this text's walks alone
set_option linter.unusedVariables false
set_option linter.unusedSimpArgs false
set_option maxHeartbeats 8000000 in
set_option maxRecDepth 100000 in
theorem impl_clashes.calls (k : Nat) (a0 : Int) (A1 : Option Addr) (c1 : Nat) (l1 : List (List Int)) (r : List (List Int)) (w : World) (hr1 : Kd.C (Kd.slice 2 (Kd.int .i64)) w A1 l1.length l1) (hc1 : l1.length ≤ c1) (h : impl_clashes.f k a0 l1 = some r) :
    Calls Try.prog 91 #[.int .i64 a0, .slice A1 l1.length c1] w fun e w' => ∃ v0_ : Value, e = .returned (v0_) ∧ Kd.S (Kd.slice 2 (Kd.int .i64)) 22 w' w.heap.size (fun _ => True) v0_ r ∧ Below w.heap.size w w' := by
  have HR1 := Aside0.mk hr1
  have HC1 := Aside0.mk hc1
  clear hr1 hc1
  have HB := Aside0.mk (Below.refl w.heap.size w)
  have H : (if 0 < (l1.length : Int) then (impl_clashes.l0 k a0 l1 ([] : List (List Int)) ((rd_L1 l1 0).length : Int) 0) else (none)) = some r := h
  clear h
  by_cases c3 : 0 < (l1.length : Int)
  · rw [if_pos c3] at H
    have c3b0 : decide (0 < (l1.length : Int)) = true := decide_eq_true c3
    have c3b1 : decide (0 < l1.length) = true := decide_eq_true (by omega)
    clear c3
    have H' := Aside0.mk H
    clear H
    have p101 : 0 ≤ (0 : Int) := (by omega)
    have q101 : 0 < (l1.length : Int) := of_decide_eq_true (by first | (with_reducible assumption) | assumption)
    obtain ⟨ad101, A101_0, c101_0, e101, hx101_0, hl101_0, hi101_0⟩ := at_L1 HR1.out 0 p101 q101
    cases e101
    have qi101 : (0 < l1.length) = True := eq_true (by omega)
    (try rw [show ((0 : Int)).toNat = 0 from rfl] at hx101_0)
    (try rw [Addr.add_zero'] at hx101_0)
    have HR101_0 := Aside0.mk hi101_0
    have HC101_0 := Aside0.mk hl101_0
    clear hi101_0 hl101_0
    replace p101 := eq_true p101
    replace q101 := eq_true q101
    go_enter Try.func91, Try.ntmps91
    go_wp2
    go_loopg [5, 15] k (fun kq v5 v15 w' => ∃ (x5_1 : List (List Int)) (x15_1 : Int), v15 = .int .i64 x15_1 ∧ Aside0 (impl_clashes.l0 kq a0 l1 x5_1 ((rd_L1 l1 0).length : Int) x15_1 = some r) ∧ Aside0 (kq ≤ k) ∧ Aside0 (Kd.S (Kd.slice 2 (Kd.int .i64)) 22 w' w.heap.size (fun _ => True) v5 x5_1) ∧ Aside0 (Below w.heap.size w w'))
    case atStart => exact ⟨(([] : List (List Int))), (0), (by first | rfl | (simp; done) | (simp [*]; done)), H', ⟨Nat.le_refl _⟩, ⟨by first | exact Kd.S_nil _ _ _ _ _ | exact Kd.N_nil _ _ _ _ _ | exact Kd.V_nil _ _ _ _ _ | exact Kd.Q_nil _ _ _ _ _ | exact Kd.R_nil _ _ _ _ _⟩, ⟨by repeat (first | (with_reducible first | exact HB.out | apply below_alloc | apply pw_below_drewN | apply below_drew1) | exact HB.out)⟩⟩
    case round =>
      clear H'
      try clear c1
      try clear p1
      try clear q1
      try clear hx1
      try clear qi1
      try clear p2
      try clear c3
      try clear c3b0
      try clear c3b1
      try clear hx101_0
      try clear p101
      try clear q101
      obtain ⟨x5_1, x15_1, rfl, HA, HK1, HO_5, HB⟩ := hrel
      cases gk with
      | zero => exact absurd HA.out (by simp [impl_clashes.l0])
      | succ k1 =>
        have H := HA.out
        clear HA
        simp only [impl_clashes.l0] at H
        by_cases c4 : x15_1 < ((rd_L1 l1 0).length : Int)
        · rw [if_pos c4] at H
          have c4b0 : decide (x15_1 < ((rd_L1 l1 0).length : Int)) = true := decide_eq_true c4
          clear c4
          have H' := Aside0.mk H
          clear H
          go_wp2
          go_loopg [5, 19] k1 (fun kq v5 v19 w' => ∃ (x5_2 : List (List Int)) (x19_2 : Int), v19 = .int .i64 x19_2 ∧ Aside0 (impl_clashes.l1 kq a0 l1 x5_2 x15_1 ((rd_L1 l1 0).length : Int) x15_1 a0 x19_2 = some r) ∧ Aside0 (kq ≤ k1) ∧ Aside0 (Kd.S (Kd.slice 2 (Kd.int .i64)) 22 w' w.heap.size (fun _ => True) v5 x5_2) ∧ Aside0 (Below w.heap.size w w'))
          case atStart => exact ⟨(x5_1), (0), (by first | rfl | (simp; done) | (simp [*]; done)), H', ⟨Nat.le_refl _⟩, ⟨by (with_reducible repeat (first | apply Kd.S_alloc | apply Kd.S_drewN | apply Kd.S_drew)); exact HO_5.out⟩, ⟨by repeat (first | (with_reducible first | exact HB.out | apply below_alloc | apply pw_below_drewN | apply below_drew1) | exact HB.out)⟩⟩
          case round =>
            clear H'
            try clear c1
            try clear p1
            try clear q1
            try clear hx1
            try clear qi1
            try clear p2
            try clear c3
            try clear c3b0
            try clear c3b1
            try clear c4
            try clear c4b0
            try clear hx101_0
            try clear p1
            try clear p101
            try clear p2
            try clear q1
            try clear q101
            obtain ⟨x5_2, x19_2, rfl, HA, HK2, HO_5, HB⟩ := hrel
            cases gk with
            | zero => exact absurd HA.out (by simp [impl_clashes.l1])
            | succ k2 =>
              have H := HA.out
              clear HA
              simp only [impl_clashes.l1] at H
              by_cases c5 : x19_2 < a0
              · rw [if_pos c5] at H
                have c5b0 : decide (x19_2 < a0) = true := decide_eq_true c5
                clear c5
                have H' := Aside0.mk H
                clear H
                go_wp2
                go_loopg [8, 24] k2 (fun kq v8 v24 w' => ∃ (x8_3 : Int) (x24_3 : Int), v8 = .int .i64 x8_3 ∧ v24 = .int .i64 x24_3 ∧ Aside0 (impl_clashes.l2 kq a0 l1 x5_2 x15_1 x19_2 x8_3 ((rd_L1 l1 0).length : Int) x15_1 a0 x19_2 l1 (l1.length : Int) x24_3 = some r) ∧ Aside0 (kq ≤ k2) ∧ Aside0 (Kd.S (Kd.slice 2 (Kd.int .i64)) 22 w' w.heap.size (fun _ => True) u5 x5_2) ∧ Aside0 (Below w.heap.size w w'))
                case atStart => exact ⟨(0), (0), (by first | rfl | (simp; done) | (simp [*]; done)), (by first | rfl | (simp; done) | (simp [*]; done)), H', ⟨Nat.le_refl _⟩, ⟨by (with_reducible repeat (first | apply Kd.S_alloc | apply Kd.S_drewN | apply Kd.S_drew)); exact HO_5.out⟩, ⟨by repeat (first | (with_reducible first | exact HB.out | apply below_alloc | apply pw_below_drewN | apply below_drew1) | exact HB.out)⟩⟩
                case round =>
                  clear H'
                  try clear c1
                  try clear p1
                  try clear q1
                  try clear hx1
                  try clear qi1
                  try clear p2
                  try clear c3
                  try clear c3b0
                  try clear c3b1
                  try clear c4
                  try clear c4b0
                  try clear c5
                  try clear c5b0
                  try clear hx101_0
                  try clear p1
                  try clear p101
                  try clear p2
                  try clear q1
                  try clear q101
                  obtain ⟨x8_3, x24_3, rfl, rfl, HA, HK3, HO_5, HB⟩ := hrel
                  cases gk with
                  | zero => exact absurd HA.out (by simp [impl_clashes.l2])
                  | succ k3 =>
                    have H := HA.out
                    clear HA
                    simp only [impl_clashes.l2] at H
                    by_cases c6 : x24_3 < (l1.length : Int)
                    · rw [if_pos c6] at H
                      have c6b0 : decide (x24_3 < (l1.length : Int)) = true := decide_eq_true c6
                      clear c6
                      by_cases c7 : 0 ≤ x24_3
                      · rw [if_pos c7] at H
                        have c7b0 : decide (0 ≤ x24_3) = true := decide_eq_true c7
                        clear c7
                        by_cases c8 : x24_3 < (l1.length : Int)
                        · rw [if_pos c8] at H
                          have c8b0 : decide (x24_3 < (l1.length : Int)) = true := decide_eq_true c8
                          clear c8
                          by_cases c9 : 0 ≤ x15_1
                          · rw [if_pos c9] at H
                            have c9b0 : decide (0 ≤ x15_1) = true := decide_eq_true c9
                            clear c9
                            by_cases c10 : x15_1 < ((rd_L1 l1 x24_3).length : Int)
                            · rw [if_pos c10] at H
                              have c10b0 : decide (x15_1 < ((rd_L1 l1 x24_3).length : Int)) = true := decide_eq_true c10
                              clear c10
                              by_cases c11 : (rd (rd_L1 l1 x24_3) x15_1) = x19_2
                              · rw [if_pos c11] at H
                                have c11b0 : ((rd (rd_L1 l1 x24_3) x15_1) == x19_2) = true := beq_iff_eq.mpr c11
                                have c11b1 : ((rd (rd_L1 l1 x24_3) x15_1) != x19_2) = false := bne_eq_false_iff_eq.mpr c11
                                clear c11
                                have H' := Aside0.mk H
                                clear H
                                have p102 : 0 ≤ (x24_3 : Int) := of_decide_eq_true (by first | (with_reducible assumption) | assumption)
                                have q102 : x24_3 < (l1.length : Int) := of_decide_eq_true (by first | (with_reducible assumption) | assumption)
                                obtain ⟨ad102, A102_0, c102_0, e102, hx102_0, hl102_0, hi102_0⟩ := at_L1 HR1.out x24_3 p102 q102
                                obtain rfl : ad101 = ad102 := (by injection e102)
                                replace hx102_0 := (HB.out.cell (World.block_lt_of_cell? w _ hx102_0)).trans hx102_0
                                have HR102_0 := Aside0.mk hi102_0
                                have HC102_0 := Aside0.mk hl102_0
                                clear hi102_0 hl102_0
                                replace p102 := eq_true p102
                                replace q102 := eq_true q102
                                have p103 : 0 ≤ (x15_1 : Int) := of_decide_eq_true (by first | (with_reducible assumption) | assumption)
                                have q103 : x15_1 < ((rd_L1 l1 x24_3).length : Int) := of_decide_eq_true (by first | (with_reducible assumption) | assumption)
                                obtain ⟨ad103, e103, hx103_0⟩ := Kd.at_int HR102_0.out x15_1 p103 q103
                                cases e103
                                replace hx103_0 := (HB.out.cell (World.block_lt_of_cell? w _ hx103_0)).trans hx103_0
                                replace p103 := eq_true p103
                                replace q103 := eq_true q103
                                go_wp2
                                go_roundg k3
                                case measure => have := HK1.out; have := HK2.out; have := HK3.out; omega
                                case rel => exact ⟨(wrap64 (x8_3 + 1)), (wrap64 (x24_3 + 1)), (by first | rfl | (simp; done) | (simp [*]; done)), (by first | rfl | (simp; done) | (simp [*]; done)), H', ⟨by have := HK1.out; have := HK2.out; have := HK3.out; omega⟩, ⟨by (with_reducible repeat (first | apply Kd.S_alloc | apply Kd.S_drewN | apply Kd.S_drew)); exact HO_5.out⟩, ⟨by repeat (first | (with_reducible first | exact HB.out | apply below_alloc | apply pw_below_drewN | apply below_drew1) | exact HB.out)⟩⟩
                              · rw [if_neg c11] at H
                                have c11b0 : ((rd (rd_L1 l1 x24_3) x15_1) == x19_2) = false := beq_eq_false_iff_ne.mpr c11
                                have c11b1 : ((rd (rd_L1 l1 x24_3) x15_1) != x19_2) = true := bne_iff_ne.mpr c11
                                have H' := Aside0.mk H
                                clear H
                                have p102 : 0 ≤ (x24_3 : Int) := of_decide_eq_true (by first | (with_reducible assumption) | assumption)
                                have q102 : x24_3 < (l1.length : Int) := of_decide_eq_true (by first | (with_reducible assumption) | assumption)
                                obtain ⟨ad102, A102_0, c102_0, e102, hx102_0, hl102_0, hi102_0⟩ := at_L1 HR1.out x24_3 p102 q102
                                obtain rfl : ad101 = ad102 := (by injection e102)
                                replace hx102_0 := (HB.out.cell (World.block_lt_of_cell? w _ hx102_0)).trans hx102_0
                                have HR102_0 := Aside0.mk hi102_0
                                have HC102_0 := Aside0.mk hl102_0
                                clear hi102_0 hl102_0
                                replace p102 := eq_true p102
                                replace q102 := eq_true q102
                                have p103 : 0 ≤ (x15_1 : Int) := of_decide_eq_true (by first | (with_reducible assumption) | assumption)
                                have q103 : x15_1 < ((rd_L1 l1 x24_3).length : Int) := of_decide_eq_true (by first | (with_reducible assumption) | assumption)
                                obtain ⟨ad103, e103, hx103_0⟩ := Kd.at_int HR102_0.out x15_1 p103 q103
                                cases e103
                                replace hx103_0 := (HB.out.cell (World.block_lt_of_cell? w _ hx103_0)).trans hx103_0
                                replace p103 := eq_true p103
                                replace q103 := eq_true q103
                                go_wp2
                                go_roundg k3
                                case measure => have := HK1.out; have := HK2.out; have := HK3.out; omega
                                case rel => exact ⟨(x8_3), (wrap64 (x24_3 + 1)), (by first | rfl | (simp; done) | (simp [*]; done)), (by first | rfl | (simp; done) | (simp [*]; done)), H', ⟨by have := HK1.out; have := HK2.out; have := HK3.out; omega⟩, ⟨by (with_reducible repeat (first | apply Kd.S_alloc | apply Kd.S_drewN | apply Kd.S_drew)); exact HO_5.out⟩, ⟨by repeat (first | (with_reducible first | exact HB.out | apply below_alloc | apply pw_below_drewN | apply below_drew1) | exact HB.out)⟩⟩
                            · rw [if_neg c10] at H
                              exact absurd H (by simp)
                          · rw [if_neg c9] at H
                            exact absurd H (by simp)
                        · rw [if_neg c8] at H
                          exact absurd H (by simp)
                      · rw [if_neg c7] at H
                        exact absurd H (by simp)
                    · rw [if_neg c6] at H
                      have c6b0 : decide (x24_3 < (l1.length : Int)) = false := decide_eq_false c6
                      clear c6
                      by_cases c12 : x8_3 > 1
                      · rw [if_pos c12] at H
                        have c12b0 : decide (1 < x8_3) = true := decide_eq_true c12
                        clear c12
                        obtain ⟨y104, hy104⟩ : ∃ y_ : List Int, y_ = (([x15_1, x19_2] : List Int)) := ⟨_, rfl⟩
                        replace H : (if x5_2.length < 5864062014805 then (impl_clashes.l1 k3 a0 l1 (x5_2 ++ [y104]) x15_1 ((rd_L1 l1 0).length : Int) x15_1 a0 (wrap64 (x19_2 + 1))) else (none)) = some r := by first | (rw [hy104]; with_reducible exact H) | (have H2_ := (Option.bind_some _ _).symm.trans H; rw [hy104]; with_reducible exact H2_) | (have H2_ := (Option.bind_some _ _).symm.trans H; with_reducible exact H2_) | with_reducible exact H | (rw [hy104]; exact H) | exact H
                        have Ny104 := Aside0.mk hy104
                        clear hy104
                        by_cases c13 : x5_2.length < 5864062014805
                        · rw [if_pos c13] at H
                          have LMc13 := Aside0.mk c13
                          clear c13
                          obtain ⟨y107, hy107⟩ : ∃ y_ : List (List Int), y_ = (x5_2 ++ [y104]) := ⟨_, rfl⟩
                          replace H : (impl_clashes.l1 k3 a0 l1 y107 x15_1 ((rd_L1 l1 0).length : Int) x15_1 a0 (wrap64 (x19_2 + 1))) = some r := by first | (rw [hy107]; with_reducible exact H) | (have H2_ := (Option.bind_some _ _).symm.trans H; rw [hy107]; with_reducible exact H2_) | (have H2_ := (Option.bind_some _ _).symm.trans H; with_reducible exact H2_) | with_reducible exact H | (rw [hy107]; exact H) | exact H
                          have Ny107 := Aside0.mk hy107
                          clear hy107
                          have H' := Aside0.mk H
                          clear H
                          go_wp2_with (first | ((with_reducible refine gate_dst (N := 42) rfl ?_); refine Kd.R_lit (Kd.int .i64) _ 2 ?hg (N := 42) ?hd (xs := ([x15_1, x19_2] : List Int)) (inner := [.int .i64 x15_1, .int .i64 x19_2]) (ok := fun _ => True) (okp := fun _ => True) ?hr ?hp (fun _ hk => hk) trivial (Below.refl _ _) (Nat.le_refl _) (by simp) ?_; (case hd => rfl); (case hg => rfl); (case hr => first | (go_simp; done) | (go_simp; rfl)); (case hp => exact (Reps.one (show Kd.M (Kd.int .i64) _ _ _ x15_1 [.int .i64 x15_1] from rfl) (Reps.one (show Kd.M (Kd.int .i64) _ _ _ x19_2 [.int .i64 x19_2] from rfl) (Reps.none _ _)))); intro v105 w14 ho15 hb hg_ hnew_; clear hg_ hnew_; (first | rw [← Ny104.out] at ho15 | (simp only [Int.reduceToNat] at ho15; rw [← Ny104.out] at ho15)); have n0_ := Aside0.mk (Kd.S_elder' (by (with_reducible repeat (first | apply Kd.S_alloc | apply Kd.S_drewN | apply Kd.S_drew)); exact HO_5.out) (Kd.R_base ho15) hb); have n1_ := Aside0.mk (Kd.R_lower ho15 (below_size (by repeat (first | (with_reducible first | exact HB.out | apply below_alloc | apply pw_below_drewN | apply below_drew1) | exact HB.out)))); have n2_ := Aside0.mk (below_step (by repeat (first | (with_reducible first | exact HB.out | apply below_alloc | apply pw_below_drewN | apply below_drew1) | exact HB.out)) hb); clear HO_5; clear HB; have HO_5 := n0_; have HO106 := n1_; have HB := n2_; clear n0_ n1_ n2_; clear hb ho15; obtain ⟨Ao17, co17, eo17⟩ := Kd.R_slice HO106.out; subst eo17) | ((with_reducible refine gate_builtin (b := .append) (xs := #[.tmp 39, .tmp 43]) rfl ?_); at_builtin; refine Kd.S_append (Kd.slice 2 (Kd.int .i64)) (w0 := w) w.heap.size rfl (.tmp 39) (.tmp 43) 52 22 (.slice none 0 0) 24 rfl Try.underlying52 info22 rfl (by decide) (by omega) u5 x5_2 y104 [.slice Ao17 y104.length co17] (fun _ => True) (fun k_ => some k_ = (.slice Ao17 y104.length co17 : Value).ownBlock) rfl rfl ?aP (fun k_ hk_ => ((Kd.R_mono (ok' := fun k_ => ((fun _ => True)) k_ ∧ some k_ ≠ (u5 : Value).ownBlock) (Kd.R_apart' (HO106.out) (Kd.S_typed HO_5.out) (by decide)) (fun k_ hk => ⟨trivial, hk.2⟩))).1 k_ hk_.symm) ?aF ?aO ?aB ?aS ?aL ?_; (case aP => exact Kd.M_row (Kd.R_mono (Kd.R_tight rfl (Kd.R_mono (ok' := fun k_ => ((fun _ => True)) k_ ∧ some k_ ≠ (u5 : Value).ownBlock) (Kd.R_apart' (HO106.out) (Kd.S_typed HO_5.out) (by decide)) (fun k_ hk => ⟨trivial, hk.2⟩))) (fun _ h_ => h_))); (case aB => exact (by repeat (first | (with_reducible first | exact HB.out | apply below_alloc | apply pw_below_drewN | apply below_drew1) | exact HB.out))); (case aF => exact (fun _ _ => trivial)); (case aO => exact (by (with_reducible repeat (first | apply Kd.S_alloc | apply Kd.S_drewN | apply Kd.S_drew)); exact Kd.S_mono HO_5.out (fun k_ hk => ⟨trivial, fun e_ => hk.2 e_⟩))); (case aS => exact (below_size (by repeat (first | (with_reducible first | exact HB.out | apply below_alloc | apply pw_below_drewN | apply below_drew1) | exact HB.out)))); (case aL => have := LMc13.out; omega); intro v108 w16 ho hb hg hat; rw [← Ny107.out] at ho; have n0_ := Aside0.mk (hb); have n1_ := Aside0.mk (ho); clear HB; clear HO_5; clear HO106; have HB := n0_; have HO109 := n1_; clear n0_ n1_; clear ho hb hg hat))
                          go_roundg k3
                          case measure => have := HK1.out; have := HK2.out; have := HK3.out; omega
                          case rel => exact ⟨(y107), (wrap64 (x19_2 + 1)), (by first | rfl | (simp; done) | (simp [*]; done)), H', ⟨by have := HK1.out; have := HK2.out; have := HK3.out; omega⟩, ⟨by (with_reducible repeat (first | apply Kd.S_alloc | apply Kd.S_drewN | apply Kd.S_drew)); exact HO109.out⟩, ⟨by repeat (first | (with_reducible first | exact HB.out | apply below_alloc | apply pw_below_drewN | apply below_drew1) | exact HB.out)⟩⟩
                        · rw [if_neg c13] at H
                          exact absurd H (by simp)
                      · rw [if_neg c12] at H
                        have c12b0 : decide (1 < x8_3) = false := decide_eq_false c12
                        clear c12
                        have H' := Aside0.mk H
                        clear H
                        go_wp2
                        go_roundg k3
                        case measure => have := HK1.out; have := HK2.out; have := HK3.out; omega
                        case rel => exact ⟨(x5_2), (wrap64 (x19_2 + 1)), (by first | rfl | (simp; done) | (simp [*]; done)), H', ⟨by have := HK1.out; have := HK2.out; have := HK3.out; omega⟩, ⟨by (with_reducible repeat (first | apply Kd.S_alloc | apply Kd.S_drewN | apply Kd.S_drew)); exact HO_5.out⟩, ⟨by repeat (first | (with_reducible first | exact HB.out | apply below_alloc | apply pw_below_drewN | apply below_drew1) | exact HB.out)⟩⟩
              · rw [if_neg c5] at H
                have c5b0 : decide (x19_2 < a0) = false := decide_eq_false c5
                clear c5
                have H' := Aside0.mk H
                clear H
                go_wp2
                go_roundg k2
                case measure => have := HK1.out; have := HK2.out; omega
                case rel => exact ⟨(x5_2), (wrap64 (x15_1 + 1)), (by first | rfl | (simp; done) | (simp [*]; done)), H', ⟨by have := HK1.out; have := HK2.out; omega⟩, ⟨by (with_reducible repeat (first | apply Kd.S_alloc | apply Kd.S_drewN | apply Kd.S_drew)); exact HO_5.out⟩, ⟨by repeat (first | (with_reducible first | exact HB.out | apply below_alloc | apply pw_below_drewN | apply below_drew1) | exact HB.out)⟩⟩
        · rw [if_neg c4] at H
          have c4b0 : decide (x15_1 < ((rd_L1 l1 0).length : Int)) = false := decide_eq_false c4
          clear c4
          obtain rfl := Option.some.inj H
          go_wp2
          go_ret
          exact ⟨_, by first | rfl | (simp [errW_none, errW_some] <;> rfl) | (simp [*, errW_none, errW_some] <;> rfl), by (with_reducible repeat (first | apply Kd.S_alloc | apply Kd.S_drewN | apply Kd.S_drew)); exact HO_5.out, by repeat (first | (with_reducible first | exact HB.out | apply below_alloc | apply pw_below_drewN | apply below_drew1) | exact HB.out)⟩
  · rw [if_neg c3] at H
    exact absurd H (by simp)
end Go.Proofs.Ythcccgeeccjfiaa.P
end
section
namespace Go.Proofs.Ythcccgeeccjfiaa.P
open Go.RowKit Go.Proofs.YthcccgeeccjfiaaW.PrintWords Go.Proofs.YthcccgeeccjfiaaW.PrintLast Go.Proofs.YthcccgeeccjfiaaW.PrintMore
attribute [local go_sem] max2_int min2_int max_two min_two max_three min_three max_four min_four   -- for this text's walks alone
set_option linter.unusedVariables false
set_option linter.unusedSimpArgs false
def impl_ClashesOf.f (k : Nat) (a0 : Int) (l1 : List (List Int)) : Option ((List (List Int)) × Int) := (impl_areChannels.f a0 l1).bind fun t101 => (if t101 = true then ((impl_clashes.f k a0 l1).bind fun t102 => (some (t102, 0))) else (some (([] : List (List Int)), 2)))
theorem impl_ClashesOf.mono : ∀ a0 a1 k, LeO (impl_ClashesOf.f k a0 a1) (impl_ClashesOf.f (k + 1) a0 a1) := by
  intro a0 a1 k
  unfold impl_ClashesOf.f
  repeat' first
      | (with_reducible exact impl_clashes.mono _ _ _)
      | (with_reducible exact LeO.refl _)
      | (with_reducible exact LeO.none _)
      | (with_reducible refine LeO.ite ?_ ?_)
      | (with_reducible refine LeO.bind ?_ (fun _ => ?_))
      | exact impl_clashes.mono _ _ _
      | exact LeO.none _
      | refine LeO.ite ?_ ?_
      | refine LeO.bind ?_ (fun _ => ?_)
set_option maxHeartbeats 8000000 in
set_option maxRecDepth 100000 in
theorem impl_ClashesOf.calls (k : Nat) (a0 : Int) (A1 : Option Addr) (c1 : Nat) (l1 : List (List Int)) (r1 : List (List Int)) (r2 : Int) (w : World) (hr1 : Kd.C (Kd.slice 2 (Kd.int .i64)) w A1 l1.length l1) (hc1 : l1.length ≤ c1) (h : impl_ClashesOf.f k a0 l1 = some (r1, r2)) :
    Calls Try.prog 44 #[.int .i64 a0, .slice A1 l1.length c1] w fun e w' => ∃ v0_ : Value, e = .returned (.tuple #[v0_, .int .i64 r2]) ∧ Kd.S (Kd.slice 2 (Kd.int .i64)) 22 w' w.heap.size (fun _ => True) v0_ r1 ∧ Below w.heap.size w w' := by
  have HR1 := Aside0.mk hr1
  have HC1 := Aside0.mk hc1
  clear hr1 hc1
  have HB := Aside0.mk (Below.refl w.heap.size w)
  have H : ((impl_areChannels.f a0 l1).bind fun t101 => (if t101 = true then ((impl_clashes.f k a0 l1).bind fun t102 => (some (t102, 0))) else (some (([] : List (List Int)), 2)))) = some (r1, r2) := h
  clear h
  replace H := Option.bind_eq_some_iff.mp H
  obtain ⟨t101, A30, H⟩ := H
  replace H : (if t101 = true then ((impl_clashes.f k a0 l1).bind fun t102 => (some (t102, 0))) else (some (([] : List (List Int)), 2))) = some (r1, r2) := H
  have A3 := Aside0.mk A30
  clear A30
  by_cases c4 : t101 = true
  · subst c4
    have H1 : ((impl_clashes.f k a0 l1).bind fun t102 => (some (t102, 0))) = some (r1, r2) := by rw [if_pos rfl] at H; exact H
    clear H
    have H := H1
    clear H1
    replace H := Option.bind_eq_some_iff.mp H
    obtain ⟨t102, A50, H⟩ := H
    replace H : (some (t102, 0)) = some (r1, r2) := H
    have A5 := Aside0.mk A50
    clear A50
    simp only [Option.some.injEq, Prod.mk.injEq] at H
    obtain ⟨rfl, rfl⟩ := H
    go_enter Try.func44, Try.ntmps44
    go_wp2_with (first | ((with_reducible refine gate_callee (f := 90) rfl ?_); refine goesL_ (some 8) rfl rfl Try.func90 (by kernel_rfl) rfl #[.int .i64 a0, .slice A1 l1.length c1] rfl (by (try simp only [List.map_toArray, List.map_cons, List.map_nil]); first | done | rfl | (simp only [List.length_drop, List.length_take]; rfl)) ?_; (with_reducible refine (impl_areChannels.calls a0 _ _ l1 true _ ?side1 ?side2 A3.out).mono ?_); (case side1 => repeat (first | exact HR1.out | (with_reducible refine Kd.C_alloc ?_ _) | (with_reducible refine Kd.C_drewN ?_ _) | (with_reducible refine Kd.C_drew ?_))); (case side2 => exact HC1.out); rintro e w6 ⟨rfl, hb⟩; refine ⟨_, rfl, ?_⟩; have n0_ := Aside0.mk (below_step (by repeat (first | (with_reducible first | exact HB.out | apply below_alloc | apply pw_below_drewN | apply below_drew1) | exact HB.out)) hb); clear HB; have HB := n0_; clear n0_; (try clear hb); (try clear hb2); (try clear hk); (try clear hi)) | ((with_reducible refine gate_callee (f := 91) rfl ?_); refine goesL_ (some 12) rfl rfl Try.func91 (by kernel_rfl) rfl #[.int .i64 a0, .slice A1 l1.length c1] rfl (by (try simp only [List.map_toArray, List.map_cons, List.map_nil]); first | done | rfl | (simp only [List.length_drop, List.length_take]; rfl)) ?_; (with_reducible refine (impl_clashes.calls k a0 _ _ l1 t102 _ ?side1 ?side2 A5.out).mono ?_); (case side1 => repeat (first | exact (Kd.C_below HR1.out HB.out) | (with_reducible refine Kd.C_alloc ?_ _) | (with_reducible refine Kd.C_drewN ?_ _) | (with_reducible refine Kd.C_drew ?_))); (case side2 => exact HC1.out); rintro e w7 ⟨v103, rfl, ho0, hb⟩; refine ⟨_, rfl, ?_⟩; have n0_ := Aside0.mk (Kd.S_lower ho0 (below_size (by repeat (first | (with_reducible first | exact HB.out | apply below_alloc | apply pw_below_drewN | apply below_drew1) | exact HB.out)))); have n1_ := Aside0.mk (below_step (by repeat (first | (with_reducible first | exact HB.out | apply below_alloc | apply pw_below_drewN | apply below_drew1) | exact HB.out)) hb); clear HB; have HO104 := n0_; have HB := n1_; clear n0_ n1_; (try clear hb); (try clear hb2); (try clear hk); (try clear hi); (try clear ho0)))
    go_ret2
    exact ⟨_, by first | rfl | (simp [errW_none, errW_some] <;> rfl) | (simp [*, errW_none, errW_some] <;> rfl), by (with_reducible repeat (first | apply Kd.S_alloc | apply Kd.S_drewN | apply Kd.S_drew)); exact HO104.out, by repeat (first | (with_reducible first | exact HB.out | apply below_alloc | apply pw_below_drewN | apply below_drew1) | exact HB.out)⟩
  · replace c4 := Bool.eq_false_iff.mpr c4
    subst c4
    have H1 : (some (([] : List (List Int)), 2)) = some (r1, r2) := by rw [if_neg (show ¬ (false = true) by decide)] at H; exact H
    clear H
    have H := H1
    clear H1
    simp only [Option.some.injEq, Prod.mk.injEq] at H
    obtain ⟨rfl, rfl⟩ := H
    go_enter Try.func44, Try.ntmps44
    go_wp2_with (first | ((with_reducible refine gate_callee (f := 90) rfl ?_); refine goesL_ (some 8) rfl rfl Try.func90 (by kernel_rfl) rfl #[.int .i64 a0, .slice A1 l1.length c1] rfl (by (try simp only [List.map_toArray, List.map_cons, List.map_nil]); first | done | rfl | (simp only [List.length_drop, List.length_take]; rfl)) ?_; (with_reducible refine (impl_areChannels.calls a0 _ _ l1 false _ ?side1 ?side2 A3.out).mono ?_); (case side1 => repeat (first | exact HR1.out | (with_reducible refine Kd.C_alloc ?_ _) | (with_reducible refine Kd.C_drewN ?_ _) | (with_reducible refine Kd.C_drew ?_))); (case side2 => exact HC1.out); rintro e w8 ⟨rfl, hb⟩; refine ⟨_, rfl, ?_⟩; have n0_ := Aside0.mk (below_step (by repeat (first | (with_reducible first | exact HB.out | apply below_alloc | apply pw_below_drewN | apply below_drew1) | exact HB.out)) hb); clear HB; have HB := n0_; clear n0_; (try clear hb); (try clear hb2); (try clear hk); (try clear hi)))
    go_ret2
    exact ⟨_, by first | rfl | (simp [errW_none, errW_some] <;> rfl) | (simp [*, errW_none, errW_some] <;> rfl), by first | exact Kd.S_nil _ _ _ _ _ | exact Kd.N_nil _ _ _ _ _ | exact Kd.V_nil _ _ _ _ _ | exact Kd.Q_nil _ _ _ _ _ | exact Kd.R_nil _ _ _ _ _, by repeat (first | (with_reducible first | exact HB.out | apply below_alloc | apply pw_below_drewN | apply below_drew1) | exact HB.out)⟩
end Go.Proofs.Ythcccgeeccjfiaa.P
end
section
namespace Go.Proofs.Ythcccgeeccjfiaa.P
open Go.RowKit Go.Proofs.YthcccgeeccjfiaaW.PrintWords Go.Proofs.YthcccgeeccjfiaaW.PrintLast Go.Proofs.YthcccgeeccjfiaaW.PrintMore
attribute [local go_sem] max2_int min2_int max_two min_two max_three min_three max_four min_four   -- for this text's walks alone
set_option linter.unusedVariables false
set_option linter.unusedSimpArgs false
def laws_eqInt64S.l0 : Nat → List Int → List Int → Int → Option (Bool)
  | 0, _, _, _ => none
  | k + 1, x0, x1, x5 => if x5 < (x0.length : Int) then (if 0 ≤ x5 then (if x5 < (x1.length : Int) then (if (rd x0 x5) = (rd x1 x5) then (laws_eqInt64S.l0 k x0 x1 (wrap64 (x5 + 1))) else (some false)) else (none)) else (none)) else (some true)
def laws_eqInt64S.f (k : Nat) (l0 : List Int) (l1 : List Int) : Option (Bool) := if (l0.length : Int) = (l1.length : Int) then (laws_eqInt64S.l0 k l0 l1 0) else (some false)
theorem laws_eqInt64S.mono_l : ∀ k, (∀ y0 y1 y2, LeO (laws_eqInt64S.l0 k y0 y1 y2) (laws_eqInt64S.l0 (k + 1) y0 y1 y2))
  | 0 => fun _ _ _ r h => by simp [laws_eqInt64S.l0] at h
  | k + 1 => by
    have ih0 := laws_eqInt64S.mono_l k
    · intro y0 y1 y2
      unfold laws_eqInt64S.l0
      repeat' first
      | (with_reducible exact ih0 _ _ _)
      | (with_reducible exact LeO.refl _)
      | (with_reducible exact LeO.none _)
      | (with_reducible refine LeO.ite ?_ ?_)
      | (with_reducible refine LeO.bind ?_ (fun _ => ?_))
      | exact ih0 _ _ _
      | exact LeO.none _
      | refine LeO.ite ?_ ?_
      | refine LeO.bind ?_ (fun _ => ?_)
theorem laws_eqInt64S.mono : ∀ a0 a1 k, LeO (laws_eqInt64S.f k a0 a1) (laws_eqInt64S.f (k + 1) a0 a1) := by
  intro a0 a1 k
  have ih0 := laws_eqInt64S.mono_l k
  unfold laws_eqInt64S.f
  repeat' first
      | (with_reducible exact ih0 _ _ _)
      | (with_reducible exact LeO.refl _)
      | (with_reducible exact LeO.none _)
      | (with_reducible refine LeO.ite ?_ ?_)
      | (with_reducible refine LeO.bind ?_ (fun _ => ?_))
      | exact ih0 _ _ _
      | exact LeO.none _
      | refine LeO.ite ?_ ?_
      | refine LeO.bind ?_ (fun _ => ?_)
set_option maxHeartbeats 8000000 in
set_option maxRecDepth 100000 in
theorem laws_eqInt64S.calls (k : Nat) (A0 : Option Addr) (c0 : Nat) (l0 : List Int) (A1 : Option Addr) (c1 : Nat) (l1 : List Int) (r : Bool) (w : World) (hr0 : Kd.C (Kd.int .i64) w A0 l0.length l0) (hc0 : l0.length ≤ c0) (hr1 : Kd.C (Kd.int .i64) w A1 l1.length l1) (hc1 : l1.length ≤ c1) (h : laws_eqInt64S.f k l0 l1 = some r) :
    Calls Try.prog 25 #[.slice A0 l0.length c0, .slice A1 l1.length c1] w fun e w' => e = .returned (.bool r) ∧ Drawn0 w w' := by
  have HR0 := Aside0.mk hr0
  have HC0 := Aside0.mk hc0
  clear hr0 hc0
  have HR1 := Aside0.mk hr1
  have HC1 := Aside0.mk hc1
  clear hr1 hc1
  have H : (if (l0.length : Int) = (l1.length : Int) then (laws_eqInt64S.l0 k l0 l1 0) else (some false)) = some r := h
  clear h
  by_cases c3 : (l0.length : Int) = (l1.length : Int)
  · rw [if_pos c3] at H
    have c3b0 : ((l0.length : Int) == (l1.length : Int)) = true := beq_iff_eq.mpr c3
    have c3b1 : ((l0.length : Int) != (l1.length : Int)) = false := bne_eq_false_iff_eq.mpr c3
    have c3b2 : (l0.length == l1.length) = true := by first | simpa using c3 | (simp at c3 ⊢; omega)
    clear c3
    have H' := Aside0.mk H
    clear H
    go_enter Try.func25, Try.ntmps25
    go_wp2
    repeat (go_quiet (fail); try go_wp2)
    go_loopg [5] k (fun kq v5 w' => ∃ (x5_1 : Int), v5 = .int .i64 x5_1 ∧ Aside0 (laws_eqInt64S.l0 kq l0 l1 x5_1 = some r) ∧ Aside0 (kq ≤ k) ∧ Drawn0 w w')
    case atStart => exact ⟨(0), (by first | rfl | (simp; done) | (simp [*]; done)), H', ⟨Nat.le_refl _⟩, by repeat (first | exact Drawn0.refl _ | apply Drawn0.step)⟩
    case round =>
      clear H'
      try clear c1
      try clear c2
      try clear p2
      try clear c3
      try clear c3b0
      try clear c3b1
      try clear c3b2
      obtain ⟨x5_1, rfl, HA, HK1, ⟨m1, rfl⟩⟩ := hrel
      cases gk with
      | zero => exact absurd HA.out (by simp [laws_eqInt64S.l0])
      | succ k1 =>
        have H := HA.out
        clear HA
        simp only [laws_eqInt64S.l0] at H
        by_cases c4 : x5_1 < (l0.length : Int)
        · rw [if_pos c4] at H
          have c4b0 : decide (x5_1 < (l0.length : Int)) = true := decide_eq_true c4
          clear c4
          by_cases c5 : 0 ≤ x5_1
          · rw [if_pos c5] at H
            have c5b0 : decide (0 ≤ x5_1) = true := decide_eq_true c5
            clear c5
            by_cases c6 : x5_1 < (l1.length : Int)
            · rw [if_pos c6] at H
              have c6b0 : decide (x5_1 < (l1.length : Int)) = true := decide_eq_true c6
              clear c6
              by_cases c7 : (rd l0 x5_1) = (rd l1 x5_1)
              · rw [if_pos c7] at H
                have c7b0 : ((rd l0 x5_1) == (rd l1 x5_1)) = true := beq_iff_eq.mpr c7
                have c7b1 : ((rd l0 x5_1) != (rd l1 x5_1)) = false := bne_eq_false_iff_eq.mpr c7
                clear c7
                have H' := Aside0.mk H
                clear H
                have p101 : 0 ≤ (x5_1 : Int) := of_decide_eq_true (by first | (with_reducible assumption) | assumption)
                have q101 : x5_1 < (l0.length : Int) := of_decide_eq_true (by first | (with_reducible assumption) | assumption)
                obtain ⟨ad101, e101, hx101_0⟩ := Kd.at_int HR0.out x5_1 p101 q101
                cases e101
                replace p101 := eq_true p101
                replace q101 := eq_true q101
                have p102 : 0 ≤ (x5_1 : Int) := of_decide_eq_true (by first | (with_reducible assumption) | assumption)
                have q102 : x5_1 < (l1.length : Int) := of_decide_eq_true (by first | (with_reducible assumption) | assumption)
                obtain ⟨ad102, e102, hx102_0⟩ := Kd.at_int HR1.out x5_1 p102 q102
                cases e102
                replace p102 := eq_true p102
                replace q102 := eq_true q102
                go_wp2
                repeat (go_quiet (fail); try go_wp2)
                go_roundg k1
                case measure => have := HK1.out; omega
                case rel => exact ⟨(wrap64 (x5_1 + 1)), (by first | rfl | (simp; done) | (simp [*]; done)), H', ⟨by have := HK1.out; omega⟩, by repeat (first | exact Drawn0.refl _ | apply Drawn0.step)⟩
              · rw [if_neg c7] at H
                have c7b0 : ((rd l0 x5_1) == (rd l1 x5_1)) = false := beq_eq_false_iff_ne.mpr c7
                have c7b1 : ((rd l0 x5_1) != (rd l1 x5_1)) = true := bne_iff_ne.mpr c7
                obtain rfl := Option.some.inj H
                have p101 : 0 ≤ (x5_1 : Int) := of_decide_eq_true (by first | (with_reducible assumption) | assumption)
                have q101 : x5_1 < (l0.length : Int) := of_decide_eq_true (by first | (with_reducible assumption) | assumption)
                obtain ⟨ad101, e101, hx101_0⟩ := Kd.at_int HR0.out x5_1 p101 q101
                cases e101
                replace p101 := eq_true p101
                replace q101 := eq_true q101
                have p102 : 0 ≤ (x5_1 : Int) := of_decide_eq_true (by first | (with_reducible assumption) | assumption)
                have q102 : x5_1 < (l1.length : Int) := of_decide_eq_true (by first | (with_reducible assumption) | assumption)
                obtain ⟨ad102, e102, hx102_0⟩ := Kd.at_int HR1.out x5_1 p102 q102
                cases e102
                replace p102 := eq_true p102
                replace q102 := eq_true q102
                go_wp2
                repeat (go_quiet (fail); try go_wp2)
                go_ret
                exact ⟨by first | rfl | (simp; done) | (simp [*]; done), by repeat (first | exact Drawn0.refl _ | apply Drawn0.step)⟩
            · rw [if_neg c6] at H
              exact absurd H (by simp)
          · rw [if_neg c5] at H
            exact absurd H (by simp)
        · rw [if_neg c4] at H
          have c4b0 : decide (x5_1 < (l0.length : Int)) = false := decide_eq_false c4
          clear c4
          obtain rfl := Option.some.inj H
          go_wp2
          repeat (go_quiet (fail); try go_wp2)
          go_ret
          exact ⟨by first | rfl | (simp; done) | (simp [*]; done), by repeat (first | exact Drawn0.refl _ | apply Drawn0.step)⟩
  · rw [if_neg c3] at H
    have c3b0 : ((l0.length : Int) == (l1.length : Int)) = false := beq_eq_false_iff_ne.mpr c3
    have c3b1 : ((l0.length : Int) != (l1.length : Int)) = true := bne_iff_ne.mpr c3
    have c3b2 : (l0.length == l1.length) = false := by first | simpa using c3 | (simp at c3 ⊢; omega)
    obtain rfl := Option.some.inj H
    go_enter Try.func25, Try.ntmps25
    go_wp2
    repeat (go_quiet (fail); try go_wp2)
    go_ret
    exact ⟨by first | rfl | (simp; done) | (simp [*]; done), by repeat (first | exact Drawn0.refl _ | apply Drawn0.step)⟩
end Go.Proofs.Ythcccgeeccjfiaa.P
end
section
namespace Go.Proofs.Ythcccgeeccjfiaa.P
open Go.RowKit Go.Proofs.YthcccgeeccjfiaaW.PrintWords Go.Proofs.YthcccgeeccjfiaaW.PrintLast Go.Proofs.YthcccgeeccjfiaaW.PrintMore
attribute [local go_sem] max2_int min2_int max_two min_two max_three min_three max_four min_four   -- for this text's walks alone
set_option linter.unusedVariables false
set_option linter.unusedSimpArgs false
def laws_eqInt64SS.l0 : Nat → List (List Int) → List (List Int) → Int → Option (Bool)
  | 0, _, _, _ => none
  | k + 1, x0, x1, x5 => if x5 < (x0.length : Int) then (if 0 ≤ x5 then (if x5 < (x1.length : Int) then ((laws_eqInt64S.f k (rd_L1 x0 x5) (rd_L1 x1 x5)).bind fun t103 => (if t103 = true then (laws_eqInt64SS.l0 k x0 x1 (wrap64 (x5 + 1))) else (some false))) else (none)) else (none)) else (some true)
def laws_eqInt64SS.f (k : Nat) (l0 : List (List Int)) (l1 : List (List Int)) : Option (Bool) := if (l0.length : Int) = (l1.length : Int) then (laws_eqInt64SS.l0 k l0 l1 0) else (some false)
theorem laws_eqInt64SS.mono_l : ∀ k, (∀ y0 y1 y2, LeO (laws_eqInt64SS.l0 k y0 y1 y2) (laws_eqInt64SS.l0 (k + 1) y0 y1 y2))
  | 0 => fun _ _ _ r h => by simp [laws_eqInt64SS.l0] at h
  | k + 1 => by
    have ih0 := laws_eqInt64SS.mono_l k
    · intro y0 y1 y2
      unfold laws_eqInt64SS.l0
      repeat' first
      | (with_reducible exact ih0 _ _ _)
      | (with_reducible exact laws_eqInt64S.mono _ _ _)
      | (with_reducible exact LeO.refl _)
      | (with_reducible exact LeO.none _)
      | (with_reducible refine LeO.ite ?_ ?_)
      | (with_reducible refine LeO.bind ?_ (fun _ => ?_))
      | exact ih0 _ _ _
      | exact laws_eqInt64S.mono _ _ _
      | exact LeO.none _
      | refine LeO.ite ?_ ?_
      | refine LeO.bind ?_ (fun _ => ?_)
theorem laws_eqInt64SS.mono : ∀ a0 a1 k, LeO (laws_eqInt64SS.f k a0 a1) (laws_eqInt64SS.f (k + 1) a0 a1) := by
  intro a0 a1 k
  have ih0 := laws_eqInt64SS.mono_l k
  unfold laws_eqInt64SS.f
  repeat' first
      | (with_reducible exact ih0 _ _ _)
      | (with_reducible exact laws_eqInt64S.mono _ _ _)
      | (with_reducible exact LeO.refl _)
      | (with_reducible exact LeO.none _)
      | (with_reducible refine LeO.ite ?_ ?_)
      | (with_reducible refine LeO.bind ?_ (fun _ => ?_))
      | exact ih0 _ _ _
      | exact laws_eqInt64S.mono _ _ _
      | exact LeO.none _
      | refine LeO.ite ?_ ?_
      | refine LeO.bind ?_ (fun _ => ?_)
set_option maxHeartbeats 8000000 in
set_option maxRecDepth 100000 in
theorem laws_eqInt64SS.calls (k : Nat) (A0 : Option Addr) (c0 : Nat) (l0 : List (List Int)) (A1 : Option Addr) (c1 : Nat) (l1 : List (List Int)) (r : Bool) (w : World) (hr0 : Kd.C (Kd.slice 2 (Kd.int .i64)) w A0 l0.length l0) (hc0 : l0.length ≤ c0) (hr1 : Kd.C (Kd.slice 2 (Kd.int .i64)) w A1 l1.length l1) (hc1 : l1.length ≤ c1) (h : laws_eqInt64SS.f k l0 l1 = some r) :
    Calls Try.prog 45 #[.slice A0 l0.length c0, .slice A1 l1.length c1] w fun e w' => e = .returned (.bool r) ∧ Drawn0 w w' := by
  have HR0 := Aside0.mk hr0
  have HC0 := Aside0.mk hc0
  clear hr0 hc0
  have HR1 := Aside0.mk hr1
  have HC1 := Aside0.mk hc1
  clear hr1 hc1
  have H : (if (l0.length : Int) = (l1.length : Int) then (laws_eqInt64SS.l0 k l0 l1 0) else (some false)) = some r := h
  clear h
  by_cases c3 : (l0.length : Int) = (l1.length : Int)
  · rw [if_pos c3] at H
    have c3b0 : ((l0.length : Int) == (l1.length : Int)) = true := beq_iff_eq.mpr c3
    have c3b1 : ((l0.length : Int) != (l1.length : Int)) = false := bne_eq_false_iff_eq.mpr c3
    have c3b2 : (l0.length == l1.length) = true := by first | simpa using c3 | (simp at c3 ⊢; omega)
    clear c3
    have H' := Aside0.mk H
    clear H
    go_enter Try.func45, Try.ntmps45
    go_wp2
    repeat (go_quiet (fail); try go_wp2)
    go_loopg [5] k (fun kq v5 w' => ∃ (x5_1 : Int), v5 = .int .i64 x5_1 ∧ Aside0 (laws_eqInt64SS.l0 kq l0 l1 x5_1 = some r) ∧ Aside0 (kq ≤ k) ∧ Drawn0 w w')
    case atStart => exact ⟨(0), (by first | rfl | (simp; done) | (simp [*]; done)), H', ⟨Nat.le_refl _⟩, by repeat (first | exact Drawn0.refl _ | apply Drawn0.step)⟩
    case round =>
      clear H'
      try clear c1
      try clear p2
      try clear c3
      try clear c3b0
      try clear c3b1
      try clear c3b2
      obtain ⟨x5_1, rfl, HA, HK1, ⟨m1, rfl⟩⟩ := hrel
      cases gk with
      | zero => exact absurd HA.out (by simp [laws_eqInt64SS.l0])
      | succ k1 =>
        have H := HA.out
        clear HA
        simp only [laws_eqInt64SS.l0] at H
        by_cases c4 : x5_1 < (l0.length : Int)
        · rw [if_pos c4] at H
          have c4b0 : decide (x5_1 < (l0.length : Int)) = true := decide_eq_true c4
          clear c4
          by_cases c5 : 0 ≤ x5_1
          · rw [if_pos c5] at H
            have c5b0 : decide (0 ≤ x5_1) = true := decide_eq_true c5
            clear c5
            by_cases c6 : x5_1 < (l1.length : Int)
            · rw [if_pos c6] at H
              have c6b0 : decide (x5_1 < (l1.length : Int)) = true := decide_eq_true c6
              clear c6
              replace H := Option.bind_eq_some_iff.mp H
              obtain ⟨t103, A70, H⟩ := H
              replace H : (if t103 = true then (laws_eqInt64SS.l0 k1 l0 l1 (wrap64 (x5_1 + 1))) else (some false)) = some r := H
              have A7 := Aside0.mk A70
              clear A70
              by_cases c8 : t103 = true
              · subst c8
                have H1 : (laws_eqInt64SS.l0 k1 l0 l1 (wrap64 (x5_1 + 1))) = some r := by rw [if_pos rfl] at H; exact H
                clear H
                have H := H1
                clear H1
                have H' := Aside0.mk H
                clear H
                have p101 : 0 ≤ (x5_1 : Int) := of_decide_eq_true (by first | (with_reducible assumption) | assumption)
                have q101 : x5_1 < (l0.length : Int) := of_decide_eq_true (by first | (with_reducible assumption) | assumption)
                obtain ⟨ad101, A101_0, c101_0, e101, hx101_0, hl101_0, hi101_0⟩ := at_L1 HR0.out x5_1 p101 q101
                cases e101
                have HR101_0 := Aside0.mk hi101_0
                have HC101_0 := Aside0.mk hl101_0
                clear hi101_0 hl101_0
                replace p101 := eq_true p101
                replace q101 := eq_true q101
                have p102 : 0 ≤ (x5_1 : Int) := of_decide_eq_true (by first | (with_reducible assumption) | assumption)
                have q102 : x5_1 < (l1.length : Int) := of_decide_eq_true (by first | (with_reducible assumption) | assumption)
                obtain ⟨ad102, A102_0, c102_0, e102, hx102_0, hl102_0, hi102_0⟩ := at_L1 HR1.out x5_1 p102 q102
                cases e102
                have HR102_0 := Aside0.mk hi102_0
                have HC102_0 := Aside0.mk hl102_0
                clear hi102_0 hl102_0
                replace p102 := eq_true p102
                replace q102 := eq_true q102
                go_wp2_with (first | (go_at_call 25; (with_reducible refine (laws_eqInt64S.calls k1 _ _ (rd_L1 l0 x5_1) _ _ (rd_L1 l1 x5_1) true _ ?side1 ?side2 ?side3 ?side4 A7.out).mono ?_); (case side1 => repeat (first | exact HR101_0.out | (with_reducible refine Kd.C_alloc ?_ _) | (with_reducible refine Kd.C_drewN ?_ _) | (with_reducible refine Kd.C_drew ?_))); (case side2 => exact HC101_0.out); (case side3 => repeat (first | exact HR102_0.out | (with_reducible refine Kd.C_alloc ?_ _) | (with_reducible refine Kd.C_drewN ?_ _) | (with_reducible refine Kd.C_drew ?_))); (case side4 => exact HC102_0.out); rintro e w' ⟨rfl, ⟨nd, rfl⟩⟩; (try first | exact ⟨rfl, _, World.drewN_drewN _ _ _⟩ | exact ⟨rfl, _, Eq.trans (World.drewN_drewN _ _ _) (congrArg (World.drewN _) (Nat.add_assoc _ _ _))⟩)))
                repeat (go_quiet (first | (go_at_call 25; (with_reducible refine (laws_eqInt64S.calls k1 _ _ (rd_L1 l0 x5_1) _ _ (rd_L1 l1 x5_1) true _ ?side1 ?side2 ?side3 ?side4 A7.out).mono ?_); (case side1 => repeat (first | exact HR101_0.out | (with_reducible refine Kd.C_alloc ?_ _) | (with_reducible refine Kd.C_drewN ?_ _) | (with_reducible refine Kd.C_drew ?_))); (case side2 => exact HC101_0.out); (case side3 => repeat (first | exact HR102_0.out | (with_reducible refine Kd.C_alloc ?_ _) | (with_reducible refine Kd.C_drewN ?_ _) | (with_reducible refine Kd.C_drew ?_))); (case side4 => exact HC102_0.out); rintro e w' ⟨rfl, ⟨nd, rfl⟩⟩; (try first | exact ⟨rfl, _, World.drewN_drewN _ _ _⟩ | exact ⟨rfl, _, Eq.trans (World.drewN_drewN _ _ _) (congrArg (World.drewN _) (Nat.add_assoc _ _ _))⟩))); try go_wp2_with (first | (go_at_call 25; (with_reducible refine (laws_eqInt64S.calls k1 _ _ (rd_L1 l0 x5_1) _ _ (rd_L1 l1 x5_1) true _ ?side1 ?side2 ?side3 ?side4 A7.out).mono ?_); (case side1 => repeat (first | exact HR101_0.out | (with_reducible refine Kd.C_alloc ?_ _) | (with_reducible refine Kd.C_drewN ?_ _) | (with_reducible refine Kd.C_drew ?_))); (case side2 => exact HC101_0.out); (case side3 => repeat (first | exact HR102_0.out | (with_reducible refine Kd.C_alloc ?_ _) | (with_reducible refine Kd.C_drewN ?_ _) | (with_reducible refine Kd.C_drew ?_))); (case side4 => exact HC102_0.out); rintro e w' ⟨rfl, ⟨nd, rfl⟩⟩; (try first | exact ⟨rfl, _, World.drewN_drewN _ _ _⟩ | exact ⟨rfl, _, Eq.trans (World.drewN_drewN _ _ _) (congrArg (World.drewN _) (Nat.add_assoc _ _ _))⟩))))
                go_roundg k1
                case measure => have := HK1.out; omega
                case rel => exact ⟨(wrap64 (x5_1 + 1)), (by first | rfl | (simp; done) | (simp [*]; done)), H', ⟨by have := HK1.out; omega⟩, by repeat (first | exact Drawn0.refl _ | apply Drawn0.step)⟩
              · replace c8 := Bool.eq_false_iff.mpr c8
                subst c8
                have H1 : (some false) = some r := by rw [if_neg (show ¬ (false = true) by decide)] at H; exact H
                clear H
                have H := H1
                clear H1
                obtain rfl := Option.some.inj H
                have p101 : 0 ≤ (x5_1 : Int) := of_decide_eq_true (by first | (with_reducible assumption) | assumption)
                have q101 : x5_1 < (l0.length : Int) := of_decide_eq_true (by first | (with_reducible assumption) | assumption)
                obtain ⟨ad101, A101_0, c101_0, e101, hx101_0, hl101_0, hi101_0⟩ := at_L1 HR0.out x5_1 p101 q101
                cases e101
                have HR101_0 := Aside0.mk hi101_0
                have HC101_0 := Aside0.mk hl101_0
                clear hi101_0 hl101_0
                replace p101 := eq_true p101
                replace q101 := eq_true q101
                have p102 : 0 ≤ (x5_1 : Int) := of_decide_eq_true (by first | (with_reducible assumption) | assumption)
                have q102 : x5_1 < (l1.length : Int) := of_decide_eq_true (by first | (with_reducible assumption) | assumption)
                obtain ⟨ad102, A102_0, c102_0, e102, hx102_0, hl102_0, hi102_0⟩ := at_L1 HR1.out x5_1 p102 q102
                cases e102
                have HR102_0 := Aside0.mk hi102_0
                have HC102_0 := Aside0.mk hl102_0
                clear hi102_0 hl102_0
                replace p102 := eq_true p102
                replace q102 := eq_true q102
                go_wp2_with (first | (go_at_call 25; (with_reducible refine (laws_eqInt64S.calls k1 _ _ (rd_L1 l0 x5_1) _ _ (rd_L1 l1 x5_1) false _ ?side1 ?side2 ?side3 ?side4 A7.out).mono ?_); (case side1 => repeat (first | exact HR101_0.out | (with_reducible refine Kd.C_alloc ?_ _) | (with_reducible refine Kd.C_drewN ?_ _) | (with_reducible refine Kd.C_drew ?_))); (case side2 => exact HC101_0.out); (case side3 => repeat (first | exact HR102_0.out | (with_reducible refine Kd.C_alloc ?_ _) | (with_reducible refine Kd.C_drewN ?_ _) | (with_reducible refine Kd.C_drew ?_))); (case side4 => exact HC102_0.out); rintro e w' ⟨rfl, ⟨nd, rfl⟩⟩; (try first | exact ⟨rfl, _, World.drewN_drewN _ _ _⟩ | exact ⟨rfl, _, Eq.trans (World.drewN_drewN _ _ _) (congrArg (World.drewN _) (Nat.add_assoc _ _ _))⟩)))
                repeat (go_quiet (first | (go_at_call 25; (with_reducible refine (laws_eqInt64S.calls k1 _ _ (rd_L1 l0 x5_1) _ _ (rd_L1 l1 x5_1) false _ ?side1 ?side2 ?side3 ?side4 A7.out).mono ?_); (case side1 => repeat (first | exact HR101_0.out | (with_reducible refine Kd.C_alloc ?_ _) | (with_reducible refine Kd.C_drewN ?_ _) | (with_reducible refine Kd.C_drew ?_))); (case side2 => exact HC101_0.out); (case side3 => repeat (first | exact HR102_0.out | (with_reducible refine Kd.C_alloc ?_ _) | (with_reducible refine Kd.C_drewN ?_ _) | (with_reducible refine Kd.C_drew ?_))); (case side4 => exact HC102_0.out); rintro e w' ⟨rfl, ⟨nd, rfl⟩⟩; (try first | exact ⟨rfl, _, World.drewN_drewN _ _ _⟩ | exact ⟨rfl, _, Eq.trans (World.drewN_drewN _ _ _) (congrArg (World.drewN _) (Nat.add_assoc _ _ _))⟩))); try go_wp2_with (first | (go_at_call 25; (with_reducible refine (laws_eqInt64S.calls k1 _ _ (rd_L1 l0 x5_1) _ _ (rd_L1 l1 x5_1) false _ ?side1 ?side2 ?side3 ?side4 A7.out).mono ?_); (case side1 => repeat (first | exact HR101_0.out | (with_reducible refine Kd.C_alloc ?_ _) | (with_reducible refine Kd.C_drewN ?_ _) | (with_reducible refine Kd.C_drew ?_))); (case side2 => exact HC101_0.out); (case side3 => repeat (first | exact HR102_0.out | (with_reducible refine Kd.C_alloc ?_ _) | (with_reducible refine Kd.C_drewN ?_ _) | (with_reducible refine Kd.C_drew ?_))); (case side4 => exact HC102_0.out); rintro e w' ⟨rfl, ⟨nd, rfl⟩⟩; (try first | exact ⟨rfl, _, World.drewN_drewN _ _ _⟩ | exact ⟨rfl, _, Eq.trans (World.drewN_drewN _ _ _) (congrArg (World.drewN _) (Nat.add_assoc _ _ _))⟩))))
                go_ret
                exact ⟨by first | rfl | (simp; done) | (simp [*]; done), by repeat (first | exact Drawn0.refl _ | apply Drawn0.step)⟩
            · rw [if_neg c6] at H
              exact absurd H (by simp)
          · rw [if_neg c5] at H
            exact absurd H (by simp)
        · rw [if_neg c4] at H
          have c4b0 : decide (x5_1 < (l0.length : Int)) = false := decide_eq_false c4
          clear c4
          obtain rfl := Option.some.inj H
          go_wp2
          repeat (go_quiet (fail); try go_wp2)
          go_ret
          exact ⟨by first | rfl | (simp; done) | (simp [*]; done), by repeat (first | exact Drawn0.refl _ | apply Drawn0.step)⟩
  · rw [if_neg c3] at H
    have c3b0 : ((l0.length : Int) == (l1.length : Int)) = false := beq_eq_false_iff_ne.mpr c3
    have c3b1 : ((l0.length : Int) != (l1.length : Int)) = true := bne_iff_ne.mpr c3
    have c3b2 : (l0.length == l1.length) = false := by first | simpa using c3 | (simp at c3 ⊢; omega)
    obtain rfl := Option.some.inj H
    go_enter Try.func45, Try.ntmps45
    go_wp2
    repeat (go_quiet (fail); try go_wp2)
    go_ret
    exact ⟨by first | rfl | (simp; done) | (simp [*]; done), by repeat (first | exact Drawn0.refl _ | apply Drawn0.step)⟩
end Go.Proofs.Ythcccgeeccjfiaa.P
end
section
namespace Go.Proofs.Ythcccgeeccjfiaa.P
open Go.RowKit Go.Proofs.YthcccgeeccjfiaaW.PrintWords Go.Proofs.YthcccgeeccjfiaaW.PrintLast Go.Proofs.YthcccgeeccjfiaaW.PrintMore
attribute [local go_sem] max2_int min2_int max_two min_two max_three min_three max_four min_four   -- for this text's walks alone
set_option linter.unusedVariables false
set_option linter.unusedSimpArgs false
def laws_heldInt64S.l0 : Nat → List Int → Int → Int → Option (Int)
  | 0, _, _, _ => none
  | k + 1, x0, x1, x5 => if x5 < (x0.length : Int) then (if 0 ≤ x5 then (if (rd x0 x5) = x1 then (laws_heldInt64S.l0 k x0 (wrap64 (x1 + 1)) (wrap64 (x5 + 1))) else (some (-1))) else (none)) else (some x1)
def laws_heldInt64S.f (k : Nat) (l0 : List Int) (a1 : Int) : Option (Int) := laws_heldInt64S.l0 k l0 a1 0
theorem laws_heldInt64S.mono_l : ∀ k, (∀ y0 y1 y2, LeO (laws_heldInt64S.l0 k y0 y1 y2) (laws_heldInt64S.l0 (k + 1) y0 y1 y2))
  | 0 => fun _ _ _ r h => by simp [laws_heldInt64S.l0] at h
  | k + 1 => by
    have ih0 := laws_heldInt64S.mono_l k
    · intro y0 y1 y2
      unfold laws_heldInt64S.l0
      repeat' first
      | (with_reducible exact ih0 _ _ _)
      | (with_reducible exact LeO.refl _)
      | (with_reducible exact LeO.none _)
      | (with_reducible refine LeO.ite ?_ ?_)
      | (with_reducible refine LeO.bind ?_ (fun _ => ?_))
      | exact ih0 _ _ _
      | exact LeO.none _
      | refine LeO.ite ?_ ?_
      | refine LeO.bind ?_ (fun _ => ?_)
theorem laws_heldInt64S.mono : ∀ a0 a1 k, LeO (laws_heldInt64S.f k a0 a1) (laws_heldInt64S.f (k + 1) a0 a1) := by
  intro a0 a1 k
  have ih0 := laws_heldInt64S.mono_l k
  unfold laws_heldInt64S.f
  repeat' first
      | (with_reducible exact ih0 _ _ _)
      | (with_reducible exact LeO.refl _)
      | (with_reducible exact LeO.none _)
      | (with_reducible refine LeO.ite ?_ ?_)
      | (with_reducible refine LeO.bind ?_ (fun _ => ?_))
      | exact ih0 _ _ _
      | exact LeO.none _
      | refine LeO.ite ?_ ?_
      | refine LeO.bind ?_ (fun _ => ?_)
set_option maxHeartbeats 8000000 in
set_option maxRecDepth 100000 in
theorem laws_heldInt64S.calls (k : Nat) (A0 : Option Addr) (c0 : Nat) (l0 : List Int) (a1 : Int) (r : Int) (w : World) (hr0 : Kd.C (Kd.int .i64) w A0 l0.length l0) (hc0 : l0.length ≤ c0) (h : laws_heldInt64S.f k l0 a1 = some r) :
    Calls Try.prog 27 #[.slice A0 l0.length c0, .int .i64 a1] w fun e w' => e = .returned (.int .i64 r) ∧ Drawn0 w w' := by
  have HR0 := Aside0.mk hr0
  have HC0 := Aside0.mk hc0
  clear hr0 hc0
  have H : (laws_heldInt64S.l0 k l0 a1 0) = some r := h
  clear h
  have H' := Aside0.mk H
  clear H
  go_enter Try.func27, Try.ntmps27
  go_wp2
  go_loopg [1, 5] k (fun kq v1 v5 w' => ∃ (x1_1 : Int) (x5_1 : Int), v1 = .int .i64 x1_1 ∧ v5 = .int .i64 x5_1 ∧ Aside0 (laws_heldInt64S.l0 kq l0 x1_1 x5_1 = some r) ∧ Aside0 (kq ≤ k) ∧ Drawn0 w w')
  case atStart => exact ⟨(a1), (0), (by first | rfl | (simp; done) | (simp [*]; done)), (by first | rfl | (simp; done) | (simp [*]; done)), H', ⟨Nat.le_refl _⟩, by repeat (first | exact Drawn0.refl _ | apply Drawn0.step)⟩
  case round =>
    clear H'
    try clear c2
    try clear p2
    obtain ⟨x1_1, x5_1, rfl, rfl, HA, HK1, ⟨m1, rfl⟩⟩ := hrel
    cases gk with
    | zero => exact absurd HA.out (by simp [laws_heldInt64S.l0])
    | succ k1 =>
      have H := HA.out
      clear HA
      simp only [laws_heldInt64S.l0] at H
      by_cases c3 : x5_1 < (l0.length : Int)
      · rw [if_pos c3] at H
        have c3b0 : decide (x5_1 < (l0.length : Int)) = true := decide_eq_true c3
        clear c3
        by_cases c4 : 0 ≤ x5_1
        · rw [if_pos c4] at H
          have c4b0 : decide (0 ≤ x5_1) = true := decide_eq_true c4
          clear c4
          by_cases c5 : (rd l0 x5_1) = x1_1
          · rw [if_pos c5] at H
            have c5b0 : ((rd l0 x5_1) == x1_1) = true := beq_iff_eq.mpr c5
            have c5b1 : ((rd l0 x5_1) != x1_1) = false := bne_eq_false_iff_eq.mpr c5
            clear c5
            have H' := Aside0.mk H
            clear H
            have p101 : 0 ≤ (x5_1 : Int) := of_decide_eq_true (by first | (with_reducible assumption) | assumption)
            have q101 : x5_1 < (l0.length : Int) := of_decide_eq_true (by first | (with_reducible assumption) | assumption)
            obtain ⟨ad101, e101, hx101_0⟩ := Kd.at_int HR0.out x5_1 p101 q101
            cases e101
            replace p101 := eq_true p101
            replace q101 := eq_true q101
            go_wp2
            go_roundg k1
            case measure => have := HK1.out; omega
            case rel => exact ⟨(wrap64 (x1_1 + 1)), (wrap64 (x5_1 + 1)), (by first | rfl | (simp; done) | (simp [*]; done)), (by first | rfl | (simp; done) | (simp [*]; done)), H', ⟨by have := HK1.out; omega⟩, by repeat (first | exact Drawn0.refl _ | apply Drawn0.step)⟩
          · rw [if_neg c5] at H
            have c5b0 : ((rd l0 x5_1) == x1_1) = false := beq_eq_false_iff_ne.mpr c5
            have c5b1 : ((rd l0 x5_1) != x1_1) = true := bne_iff_ne.mpr c5
            obtain rfl := Option.some.inj H
            have p101 : 0 ≤ (x5_1 : Int) := of_decide_eq_true (by first | (with_reducible assumption) | assumption)
            have q101 : x5_1 < (l0.length : Int) := of_decide_eq_true (by first | (with_reducible assumption) | assumption)
            obtain ⟨ad101, e101, hx101_0⟩ := Kd.at_int HR0.out x5_1 p101 q101
            cases e101
            replace p101 := eq_true p101
            replace q101 := eq_true q101
            go_wp2
            go_ret
            exact ⟨by first | rfl | (simp; done) | (simp [*]; done), by repeat (first | exact Drawn0.refl _ | apply Drawn0.step)⟩
        · rw [if_neg c4] at H
          exact absurd H (by simp)
      · rw [if_neg c3] at H
        have c3b0 : decide (x5_1 < (l0.length : Int)) = false := decide_eq_false c3
        clear c3
        obtain rfl := Option.some.inj H
        go_wp2
        go_ret
        exact ⟨by first | rfl | (simp; done) | (simp [*]; done), by repeat (first | exact Drawn0.refl _ | apply Drawn0.step)⟩
end Go.Proofs.Ythcccgeeccjfiaa.P
end
section
namespace Go.Proofs.Ythcccgeeccjfiaa.P
open Go.RowKit Go.Proofs.YthcccgeeccjfiaaW.PrintWords Go.Proofs.YthcccgeeccjfiaaW.PrintLast Go.Proofs.YthcccgeeccjfiaaW.PrintMore
attribute [local go_sem] max2_int min2_int max_two min_two max_three min_three max_four min_four   -- for this text's walks alone
set_option linter.unusedVariables false
set_option linter.unusedSimpArgs false
def laws_heldInt64SS.l0 : Nat → List (List Int) → Int → Int → Option (Int)
  | 0, _, _, _ => none
  | k + 1, x0, x1, x5 => if x5 < (x0.length : Int) then (if 0 ≤ x5 then ((laws_heldInt64S.f k (rd_L1 x0 x5) x1).bind fun t102 => (if t102 < 0 then (some (-1)) else (laws_heldInt64SS.l0 k x0 t102 (wrap64 (x5 + 1))))) else (none)) else (some x1)
def laws_heldInt64SS.f (k : Nat) (l0 : List (List Int)) (a1 : Int) : Option (Int) := laws_heldInt64SS.l0 k l0 a1 0
theorem laws_heldInt64SS.mono_l : ∀ k, (∀ y0 y1 y2, LeO (laws_heldInt64SS.l0 k y0 y1 y2) (laws_heldInt64SS.l0 (k + 1) y0 y1 y2))
  | 0 => fun _ _ _ r h => by simp [laws_heldInt64SS.l0] at h
  | k + 1 => by
    have ih0 := laws_heldInt64SS.mono_l k
    · intro y0 y1 y2
      unfold laws_heldInt64SS.l0
      repeat' first
      | (with_reducible exact ih0 _ _ _)
      | (with_reducible exact laws_heldInt64S.mono _ _ _)
      | (with_reducible exact LeO.refl _)
      | (with_reducible exact LeO.none _)
      | (with_reducible refine LeO.ite ?_ ?_)
      | (with_reducible refine LeO.bind ?_ (fun _ => ?_))
      | exact ih0 _ _ _
      | exact laws_heldInt64S.mono _ _ _
      | exact LeO.none _
      | refine LeO.ite ?_ ?_
      | refine LeO.bind ?_ (fun _ => ?_)
theorem laws_heldInt64SS.mono : ∀ a0 a1 k, LeO (laws_heldInt64SS.f k a0 a1) (laws_heldInt64SS.f (k + 1) a0 a1) := by
  intro a0 a1 k
  have ih0 := laws_heldInt64SS.mono_l k
  unfold laws_heldInt64SS.f
  repeat' first
      | (with_reducible exact ih0 _ _ _)
      | (with_reducible exact laws_heldInt64S.mono _ _ _)
      | (with_reducible exact LeO.refl _)
      | (with_reducible exact LeO.none _)
      | (with_reducible refine LeO.ite ?_ ?_)
      | (with_reducible refine LeO.bind ?_ (fun _ => ?_))
      | exact ih0 _ _ _
      | exact laws_heldInt64S.mono _ _ _
      | exact LeO.none _
      | refine LeO.ite ?_ ?_
      | refine LeO.bind ?_ (fun _ => ?_)
set_option maxHeartbeats 8000000 in
set_option maxRecDepth 100000 in
theorem laws_heldInt64SS.calls (k : Nat) (A0 : Option Addr) (c0 : Nat) (l0 : List (List Int)) (a1 : Int) (r : Int) (w : World) (hr0 : Kd.C (Kd.slice 2 (Kd.int .i64)) w A0 l0.length l0) (hc0 : l0.length ≤ c0) (h : laws_heldInt64SS.f k l0 a1 = some r) :
    Calls Try.prog 47 #[.slice A0 l0.length c0, .int .i64 a1] w fun e w' => e = .returned (.int .i64 r) ∧ Drawn0 w w' := by
  have HR0 := Aside0.mk hr0
  have HC0 := Aside0.mk hc0
  clear hr0 hc0
  have H : (laws_heldInt64SS.l0 k l0 a1 0) = some r := h
  clear h
  have H' := Aside0.mk H
  clear H
  go_enter Try.func47, Try.ntmps47
  go_wp2
  go_loopg [1, 5] k (fun kq v1 v5 w' => ∃ (x1_1 : Int) (x5_1 : Int), v1 = .int .i64 x1_1 ∧ v5 = .int .i64 x5_1 ∧ Aside0 (laws_heldInt64SS.l0 kq l0 x1_1 x5_1 = some r) ∧ Aside0 (kq ≤ k) ∧ Drawn0 w w')
  case atStart => exact ⟨(a1), (0), (by first | rfl | (simp; done) | (simp [*]; done)), (by first | rfl | (simp; done) | (simp [*]; done)), H', ⟨Nat.le_refl _⟩, by repeat (first | exact Drawn0.refl _ | apply Drawn0.step)⟩
  case round =>
    clear H'
    try clear p2
    obtain ⟨x1_1, x5_1, rfl, rfl, HA, HK1, ⟨m1, rfl⟩⟩ := hrel
    cases gk with
    | zero => exact absurd HA.out (by simp [laws_heldInt64SS.l0])
    | succ k1 =>
      have H := HA.out
      clear HA
      simp only [laws_heldInt64SS.l0] at H
      by_cases c3 : x5_1 < (l0.length : Int)
      · rw [if_pos c3] at H
        have c3b0 : decide (x5_1 < (l0.length : Int)) = true := decide_eq_true c3
        clear c3
        by_cases c4 : 0 ≤ x5_1
        · rw [if_pos c4] at H
          have c4b0 : decide (0 ≤ x5_1) = true := decide_eq_true c4
          clear c4
          replace H := Option.bind_eq_some_iff.mp H
          obtain ⟨t102, A50, H⟩ := H
          replace H : (if t102 < 0 then (some (-1)) else (laws_heldInt64SS.l0 k1 l0 t102 (wrap64 (x5_1 + 1)))) = some r := H
          have A5 := Aside0.mk A50
          clear A50
          by_cases c6 : t102 < 0
          · rw [if_pos c6] at H
            have c6b0 : decide (t102 < 0) = true := decide_eq_true c6
            clear c6
            obtain rfl := Option.some.inj H
            have p101 : 0 ≤ (x5_1 : Int) := of_decide_eq_true (by first | (with_reducible assumption) | assumption)
            have q101 : x5_1 < (l0.length : Int) := of_decide_eq_true (by first | (with_reducible assumption) | assumption)
            obtain ⟨ad101, A101_0, c101_0, e101, hx101_0, hl101_0, hi101_0⟩ := at_L1 HR0.out x5_1 p101 q101
            cases e101
            have HR101_0 := Aside0.mk hi101_0
            have HC101_0 := Aside0.mk hl101_0
            clear hi101_0 hl101_0
            replace p101 := eq_true p101
            replace q101 := eq_true q101
            go_wp2_with (first | ((with_reducible refine gate_callee (f := 27) rfl ?_); refine goesL_ (some 17) rfl rfl Try.func27 (by kernel_rfl) rfl #[.slice A101_0 (rd_L1 l0 x5_1).length c101_0, .int .i64 x1_1] rfl (by (try simp only [List.map_toArray, List.map_cons, List.map_nil]); first | done | rfl | (simp only [List.length_drop, List.length_take]; rfl)) ?_; (with_reducible refine (laws_heldInt64S.calls k1 _ _ (rd_L1 l0 x5_1) x1_1 t102 _ ?side1 ?side2 A5.out).mono ?_); (case side1 => repeat (first | exact HR101_0.out | (with_reducible refine Kd.C_alloc ?_ _) | (with_reducible refine Kd.C_drewN ?_ _) | (with_reducible refine Kd.C_drew ?_))); (case side2 => exact HC101_0.out); rintro e w' ⟨rfl, ⟨nd, rfl⟩⟩; refine ⟨_, rfl, ?_⟩))
            go_ret
            exact ⟨by first | rfl | (simp; done) | (simp [*]; done), by repeat (first | exact Drawn0.refl _ | apply Drawn0.step)⟩
          · rw [if_neg c6] at H
            have c6b0 : decide (t102 < 0) = false := decide_eq_false c6
            clear c6
            have H' := Aside0.mk H
            clear H
            have p101 : 0 ≤ (x5_1 : Int) := of_decide_eq_true (by first | (with_reducible assumption) | assumption)
            have q101 : x5_1 < (l0.length : Int) := of_decide_eq_true (by first | (with_reducible assumption) | assumption)
            obtain ⟨ad101, A101_0, c101_0, e101, hx101_0, hl101_0, hi101_0⟩ := at_L1 HR0.out x5_1 p101 q101
            cases e101
            have HR101_0 := Aside0.mk hi101_0
            have HC101_0 := Aside0.mk hl101_0
            clear hi101_0 hl101_0
            replace p101 := eq_true p101
            replace q101 := eq_true q101
            go_wp2_with (first | ((with_reducible refine gate_callee (f := 27) rfl ?_); refine goesL_ (some 17) rfl rfl Try.func27 (by kernel_rfl) rfl #[.slice A101_0 (rd_L1 l0 x5_1).length c101_0, .int .i64 x1_1] rfl (by (try simp only [List.map_toArray, List.map_cons, List.map_nil]); first | done | rfl | (simp only [List.length_drop, List.length_take]; rfl)) ?_; (with_reducible refine (laws_heldInt64S.calls k1 _ _ (rd_L1 l0 x5_1) x1_1 t102 _ ?side1 ?side2 A5.out).mono ?_); (case side1 => repeat (first | exact HR101_0.out | (with_reducible refine Kd.C_alloc ?_ _) | (with_reducible refine Kd.C_drewN ?_ _) | (with_reducible refine Kd.C_drew ?_))); (case side2 => exact HC101_0.out); rintro e w' ⟨rfl, ⟨nd, rfl⟩⟩; refine ⟨_, rfl, ?_⟩))
            go_roundg k1
            case measure => have := HK1.out; omega
            case rel => exact ⟨(t102), (wrap64 (x5_1 + 1)), (by first | rfl | (simp; done) | (simp [*]; done)), (by first | rfl | (simp; done) | (simp [*]; done)), H', ⟨by have := HK1.out; omega⟩, by repeat (first | exact Drawn0.refl _ | apply Drawn0.step)⟩
        · rw [if_neg c4] at H
          exact absurd H (by simp)
      · rw [if_neg c3] at H
        have c3b0 : decide (x5_1 < (l0.length : Int)) = false := decide_eq_false c3
        clear c3
        obtain rfl := Option.some.inj H
        go_wp2
        go_ret
        exact ⟨by first | rfl | (simp; done) | (simp [*]; done), by repeat (first | exact Drawn0.refl _ | apply Drawn0.step)⟩
end Go.Proofs.Ythcccgeeccjfiaa.P
end
section
namespace Go.Proofs.Ythcccgeeccjfiaa.P
open Go.RowKit Go.Proofs.YthcccgeeccjfiaaW.PrintWords Go.Proofs.YthcccgeeccjfiaaW.PrintLast Go.Proofs.YthcccgeeccjfiaaW.PrintMore
attribute [local go_sem] max2_int min2_int max_two min_two max_three min_three max_four min_four   -- for this text's walks alone
set_option linter.unusedVariables false
set_option linter.unusedSimpArgs false
def laws_FnExactClashesOf.f (k : Nat) (a0 : Int) (l1 : List (List Int)) : Option Bool :=
  (laws_szInt64SS.f k l1 1048576).bind fun t => if t < 0 then some true else
  (laws_toInt64SS.f k l1).bind fun x => if x = l1 then
  (spec_ClashesOf.f k a0 l1).bind fun v => (impl_ClashesOf.f k a0 l1).bind fun g => if g = v then
  (laws_eqInt64SS.f k v.1 v.1).bind fun b1 => if b1 = true then
  (laws_eqInt64SS.f k l1 l1).bind fun b2 => if b2 = true then
  (laws_markInt64SS.f k l1 1).bind fun m1 => if 0 ≤ m1.1 then
  (laws_markInt64SS.f k v.1 1).bind fun m2 => (laws_heldInt64SS.f k m2.2 1).bind fun q => if 0 ≤ q ∧ q = m2.1 then some true
  else none else none else none else none else none else none
/-- THE ONE PURE STATEMENT. -/
def laws_FnExactClashesOf.Pure : Prop := ∀ (a0 : Int) (l1 : List (List Int)), okInt .i64 a0 → okRow (okRow (okInt .i64)) l1 → ∃ k, laws_FnExactClashesOf.f k a0 l1 = some true
set_option maxHeartbeats 16000000 in
set_option maxRecDepth 100000 in
theorem laws_FnExactClashesOf.walk (P : laws_FnExactClashesOf.Pure) (a0 : Int) (A1 : Option Addr) (c1 : Nat) (l1 : List (List Int)) (w : World) (hr1 : Kd.C (Kd.slice 2 (Kd.int .i64)) w A1 l1.length l1) (hc1 : l1.length ≤ c1) (w0 : okInt .i64 a0) (w1 : okRow (okRow (okInt .i64)) l1) :
    Calls Try.prog 12 #[.int .i64 a0, .slice A1 l1.length c1] w fun e w' => e = .returned (.bool true) ∧ Below w.heap.size w w' := by
  obtain ⟨k, h⟩ := P a0 l1 w0 w1
  unfold laws_FnExactClashesOf.f at h
  have HR1 := Aside0.mk hr1
  have HC1 := Aside0.mk hc1
  have HB := Aside0.mk (Below.refl w.heap.size w)
  obtain ⟨t, e1, h⟩ := Option.bind_eq_some_iff.mp h
  have E1 := Aside0.mk e1
  clear hr1 hc1 w0 w1 P e1
  by_cases ct : t < 0
  · have d1 : decide (t < 0) = true := decide_eq_true ct
    clear h
    go_enter Try.func12, Try.ntmps12
    go_wp2_with (go_at_call 41; refine (laws_szInt64SS.calls k A1 c1 l1 1048576 t _ HR1.out HC1.out E1.out).mono ?_; rintro e w' ⟨rfl, ⟨n0, rfl⟩⟩)
    go_ret
    exact ⟨rfl, pw_below_drewN HB.out n0⟩
  · rw [if_neg ct] at h
    obtain ⟨x, e2, h⟩ := Option.bind_eq_some_iff.mp h
    split at h
    · next ex =>
      subst ex
      obtain ⟨⟨c, er⟩, e3, h⟩ := Option.bind_eq_some_iff.mp h
      obtain ⟨g, e4, h⟩ := Option.bind_eq_some_iff.mp h
      split at h
      · next eg =>
        subst eg
        obtain ⟨b1, e5, h⟩ := Option.bind_eq_some_iff.mp h
        split at h
        · next eb =>
          subst eb
          obtain ⟨b2, e6, h⟩ := Option.bind_eq_some_iff.mp h
          split at h
          · next eb =>
            subst eb
            obtain ⟨⟨q1, xm⟩, e7, h⟩ := Option.bind_eq_some_iff.mp h
            split at h
            · next hq1 =>
              obtain ⟨⟨q2, cm⟩, e8, h⟩ := Option.bind_eq_some_iff.mp h
              obtain ⟨q3, e9, h⟩ := Option.bind_eq_some_iff.mp h
              split at h
              · next hq =>
                obtain ⟨hq2, hq3⟩ := hq
                have hq3 : q3 = q2 := hq3
                subst hq3
                have hq1 : 0 ≤ q1 := hq1
                have d1 : decide (t < 0) = false := decide_eq_false ct
                have d2 : decide (q1 < 0) = false := decide_eq_false (by omega)
                have d3 : decide (q3 < 0) = false := decide_eq_false (by omega)
                have E2 := Aside0.mk e2
                have E3 := Aside0.mk e3
                have E4 := Aside0.mk e4
                have E5 := Aside0.mk e5
                have E6 := Aside0.mk e6
                have E7 := Aside0.mk e7
                have E8 := Aside0.mk e8
                have E9 := Aside0.mk e9
                have T1 := Aside0.mk trivial
                have T2 := Aside0.mk trivial
                have T3 := Aside0.mk trivial
                have T4 := Aside0.mk trivial
                have T5 := Aside0.mk trivial
                have T6 := Aside0.mk trivial
                have T7 := Aside0.mk trivial
                have T8 := Aside0.mk trivial
                clear h e2 e3 e4 e5 e6 e7 e8 e9 hq1 hq2 ct
                go_enter Try.func12, Try.ntmps12
                go_wp2_with (first
                  | (go_at_call 41; refine (laws_szInt64SS.calls k A1 c1 _ 1048576 t _ HR1.out HC1.out E1.out).mono ?_; rintro e w' ⟨rfl, ⟨n0, rfl⟩⟩; have n0_ := Aside0.mk (pw_below_drewN HB.out n0); clear HB; have HB := n0_; clear n0_)
                  | (go_at_call 43; clear T1; refine (laws_toInt64SS.calls k A1 c1 _ _ _ (Kd.C_below HR1.out HB.out) HC1.out E2.out).mono ?_; rintro e wa ⟨va, rfl, hS, hb⟩; obtain ⟨Aa, ca, rfl, hla, hCa⟩ := Kd.S_reads hS; have HCA := Aside0.mk hCa; have HLA := Aside0.mk hla; have n0_ := Aside0.mk (below_step HB.out hb); clear HB hS hb hCa hla; have HB := n0_; clear n0_)
                  | (go_at_call 42; refine (spec_ClashesOf.calls k a0 Aa ca _ c er _ HCA.out HLA.out E3.out).mono ?_; rintro e wb ⟨vw, rfl, hS, hb⟩; obtain ⟨Aw, cw, rfl⟩ := Kd.S_slice hS; have HW := Aside0.mk (Kd.S_mono (ok' := fun k_ => k_ < wb.heap.size) (Kd.S_lower (Kd.S_bound hS) (below_size HB.out)) (fun k_ hk => hk.2.2.1)); have n0_ := Aside0.mk (below_step HB.out hb); clear HB hS hb HCA HLA; have HB := n0_; clear n0_)
                  | (go_at_call 43; clear T2; refine (laws_toInt64SS.calls k A1 c1 _ _ _ (Kd.C_below HR1.out HB.out) HC1.out E2.out).mono ?_; rintro e wc ⟨vx, rfl, hS, hb⟩; obtain ⟨Ax, cx, rfl⟩ := Kd.S_slice hS; have HX := Aside0.mk (Kd.S_mono (ok' := fun k_ => wb.heap.size ≤ k_ ∧ k_ < wc.heap.size) (Kd.S_lower (Kd.S_bound hS) (below_size HB.out)) (fun k_ hk => ⟨hk.2.1, hk.2.2.1⟩)); have n0_ := Aside0.mk (below_step HB.out hb); have n1_ := Aside0.mk (Kd.S_kept HW.out (Kept.of_below hb (fun _ => False)) (fun _ _ h_ => h_)); have HBC := Aside0.mk hb.size; clear HB HW hS hb; have HB := n0_; have HW := n1_; clear n0_ n1_)
                  | (go_at_call 44; clear T3; refine (impl_ClashesOf.calls k a0 Ax cx _ c er _ (Kd.S_reads' HX.out).2.2 (Kd.S_reads' HX.out).2.1 E4.out).mono ?_; rintro e wd ⟨vg, rfl, hS, hb⟩; obtain ⟨Ag, cg, rfl⟩ := Kd.S_slice hS; have HG := Aside0.mk (Kd.S_mono (ok' := fun k_ => wc.heap.size ≤ k_ ∧ k_ < wd.heap.size) (Kd.S_lower (Kd.S_bound hS) (below_size HB.out)) (fun k_ hk => ⟨hk.2.1, hk.2.2.1⟩)); have n0_ := Aside0.mk (below_step HB.out hb); have n1_ := Aside0.mk (Kd.S_kept HW.out (Kept.of_below hb (fun _ => False)) (fun _ _ h_ => h_)); have n2_ := Aside0.mk (Kd.S_kept HX.out (Kept.of_below hb (fun _ => False)) (fun _ _ h_ => h_)); clear HB HW HX hS hb; have HB := n0_; have HW := n1_; have HX := n2_; clear n0_ n1_ n2_)
                  | (go_at_call 45; clear T4; refine (laws_eqInt64SS.calls k Ag cg c Aw cw c true _ (Kd.S_reads' HG.out).2.2 (Kd.S_reads' HG.out).2.1 (Kd.S_reads' HW.out).2.2 (Kd.S_reads' HW.out).2.1 E5.out).mono ?_; rintro e w' ⟨rfl, ⟨n1, rfl⟩⟩; have n0_ := Aside0.mk (pw_below_drewN HB.out n1); have n1_ := Aside0.mk (Kd.S_drewN HW.out n1); have n2_ := Aside0.mk (Kd.S_drewN HX.out n1); have n3_ := Aside0.mk (Kd.S_drewN HG.out n1); clear HB HW HX HG; have HB := n0_; have HW := n1_; have HX := n2_; have HG := n3_; clear n0_ n1_ n2_ n3_)
                  | (go_at_call 43; clear T5; refine (laws_toInt64SS.calls k A1 c1 _ _ _ (Kd.C_below HR1.out HB.out) HC1.out E2.out).mono ?_; rintro e we ⟨vt, rfl, hS, hb⟩; obtain ⟨At, ct, rfl, hlt, hCt⟩ := Kd.S_reads hS; have HCT := Aside0.mk hCt; have HLT := Aside0.mk hlt; have n0_ := Aside0.mk (below_step HB.out hb); have n1_ := Aside0.mk (Kd.S_kept HW.out (Kept.of_below hb (fun _ => False)) (fun _ _ h_ => h_)); have n2_ := Aside0.mk (Kd.S_kept HX.out (Kept.of_below hb (fun _ => False)) (fun _ _ h_ => h_)); have n3_ := Aside0.mk (Kd.S_kept HG.out (Kept.of_below hb (fun _ => False)) (fun _ _ h_ => h_)); clear HB HW HX HG hS hb hlt hCt; have HB := n0_; have HW := n1_; have HX := n2_; have HG := n3_; clear n0_ n1_ n2_ n3_)
                  | (go_at_call 45; clear T6; refine (laws_eqInt64SS.calls k Ax cx _ At ct _ true _ (Kd.S_reads' HX.out).2.2 (Kd.S_reads' HX.out).2.1 HCT.out HLT.out E6.out).mono ?_; rintro e w' ⟨rfl, ⟨n2, rfl⟩⟩; have n0_ := Aside0.mk (pw_below_drewN HB.out n2); have n1_ := Aside0.mk (Kd.S_drewN HW.out n2); have n2_ := Aside0.mk (Kd.S_drewN HX.out n2); have n3_ := Aside0.mk (Kd.S_drewN HG.out n2); clear HB HW HX HG HCT HLT; have HB := n0_; have HW := n1_; have HX := n2_; have HG := n3_; clear n0_ n1_ n2_ n3_)
                  | (go_at_call 46; refine (laws_markInt64SS.calls k (fun k_ => wb.heap.size ≤ k_ ∧ k_ < wc.heap.size) _ _ 1 q1 xm w _ HB.out HX.out E7.out).mono ?_; clear T7; rintro e wf ⟨rfl, hS, hb, hk⟩; have n0_ := Aside0.mk hb; have n1_ := Aside0.mk (Kd.S_kept HW.out hk (fun k_ h1_ h2_ => by omega)); have n3_ := Aside0.mk (Kd.S_kept HG.out hk (fun k_ h1_ h2_ => by omega)); clear HB HW HX HG hS hb hk; have HB := n0_; have HW := n1_; have HG := n3_; clear n0_ n1_ n3_; have T9 := Aside0.mk trivial)
                  | (go_at_call 45; clear T9; refine (laws_eqInt64SS.calls k Ag cg c Aw cw c true _ (Kd.S_reads' HG.out).2.2 (Kd.S_reads' HG.out).2.1 (Kd.S_reads' HW.out).2.2 (Kd.S_reads' HW.out).2.1 E5.out).mono ?_; rintro e w' ⟨rfl, ⟨n3, rfl⟩⟩; have n0_ := Aside0.mk (pw_below_drewN HB.out n3); have n1_ := Aside0.mk (Kd.S_drewN HW.out n3); have n3_ := Aside0.mk (Kd.S_drewN HG.out n3); clear HB HW HG; have HB := n0_; have HW := n1_; have HG := n3_; clear n0_ n1_ n3_; have T10 := Aside0.mk trivial)
                  | (go_at_call 46; clear T10; refine (laws_markInt64SS.calls k (fun k_ => wc.heap.size ≤ k_ ∧ k_ < wd.heap.size) _ c 1 q3 cm w _ HB.out HG.out E8.out).mono ?_; rintro e wg ⟨rfl, hS, hb, hk⟩; have n0_ := Aside0.mk hb; have n1_ := Aside0.mk (Kd.S_kept HW.out hk (fun k_ h1_ h2_ => by have := HBC.out; omega)); have n3_ := Aside0.mk hS; clear HB HW HG hS hb hk; have HB := n0_; have HW := n1_; have HG := n3_; clear n0_ n1_ n3_; have T11 := Aside0.mk trivial)
                  | (go_at_call 47; clear T11; have hh := fun W C => laws_heldInt64SS.calls k Ag cg cm 1 q3 W C (by have := (Kd.S_reads' HG.out).1; have := (Kd.S_reads' HG.out).2.1; omega) E9.out; rw [← (Kd.S_reads' HG.out).1] at hh; refine (hh _ ((Kd.S_reads' HG.out).1 ▸ (Kd.S_reads' HG.out).2.2)).mono ?_; clear hh; rintro e w' ⟨rfl, ⟨n4, rfl⟩⟩; have n0_ := Aside0.mk (pw_below_drewN HB.out n4); have n1_ := Aside0.mk (Kd.S_drewN HW.out n4); have n3_ := Aside0.mk (Kd.S_drewN HG.out n4); clear HB HW HG; have HB := n0_; have HW := n1_; have HG := n3_; clear n0_ n1_ n3_; have T12 := Aside0.mk trivial)
                  | (go_at_call 43; clear T12; refine (laws_toInt64SS.calls k A1 c1 _ _ _ (Kd.C_below HR1.out HB.out) HC1.out E2.out).mono ?_; rintro e wh ⟨vt, rfl, hS, hb⟩; obtain ⟨As, cs, rfl, hls, hCs⟩ := Kd.S_reads hS; have HCS := Aside0.mk hCs; have HLS := Aside0.mk hls; have n0_ := Aside0.mk (below_step HB.out hb); have n1_ := Aside0.mk (Kd.S_kept HW.out (Kept.of_below hb (fun _ => False)) (fun _ _ h_ => h_)); have n3_ := Aside0.mk (Kd.S_kept HG.out (Kept.of_below hb (fun _ => False)) (fun _ _ h_ => h_)); clear HB HW HG hS hb hls hCs; have HB := n0_; have HW := n1_; have HG := n3_; clear n0_ n1_ n3_; have T13 := Aside0.mk trivial)
                  | (go_at_call 44; clear T13; refine (impl_ClashesOf.calls k a0 As cs _ c er _ HCS.out HLS.out E4.out).mono ?_; rintro e wi ⟨vh, rfl, hS, hb⟩; obtain ⟨Ah, ch, rfl, hlh, hCh⟩ := Kd.S_reads hS; have HCH := Aside0.mk hCh; have HLH := Aside0.mk hlh; have n0_ := Aside0.mk (below_step HB.out hb); have n1_ := Aside0.mk (Kd.S_kept HW.out (Kept.of_below hb (fun _ => False)) (fun _ _ h_ => h_)); have n3_ := Aside0.mk (Kd.S_kept HG.out (Kept.of_below hb (fun _ => False)) (fun _ _ h_ => h_)); clear HB HW HG hS hb hlh hCh HCS HLS; have HB := n0_; have HW := n1_; have HG := n3_; clear n0_ n1_ n3_; have T14 := Aside0.mk trivial)
                  | (go_at_call 45; clear T14; refine (laws_eqInt64SS.calls k Ah ch c Aw cw c true _ HCH.out HLH.out (Kd.S_reads' HW.out).2.2 (Kd.S_reads' HW.out).2.1 E5.out).mono ?_; rintro e w' ⟨rfl, ⟨n5, rfl⟩⟩; have n0_ := Aside0.mk (pw_below_drewN HB.out n5); have n3_ := Aside0.mk (Kd.S_drewN HG.out n5); clear HB HW HG; have HB := n0_; have HG := n3_; clear n0_ n3_; have T15 := Aside0.mk trivial)
                  | (go_at_call 47; clear T15; have hh := fun W C => laws_heldInt64SS.calls k Ag cg cm 1 q3 W C (by have := (Kd.S_reads' HG.out).1; have := (Kd.S_reads' HG.out).2.1; omega) E9.out; rw [← (Kd.S_reads' HG.out).1] at hh; refine (hh _ ((Kd.S_reads' HG.out).1 ▸ (Kd.S_reads' HG.out).2.2)).mono ?_; clear hh; rintro e w' ⟨rfl, ⟨n6, rfl⟩⟩; have n0_ := Aside0.mk (pw_below_drewN HB.out n6); clear HB HG; have HB := n0_; clear n0_))
                go_ret
                exact ⟨rfl, by first | exact HB.out | simpa using HB.out⟩
              · exact absurd h (by simp)
            · exact absurd h (by simp)
          · exact absurd h (by simp)
        · exact absurd h (by simp)
      · exact absurd h (by simp)
    · exact absurd h (by simp)
end Go.Proofs.Ythcccgeeccjfiaa.P
end
section
namespace Go.Proofs.Ythcccgeeccjfiaa.Pure
open Go.RowKit Go.Proofs.Ythcccgeeccjfiaa.P Go.Proofs.YthcccgeeccjfiaaW.PrintWords Go.Proofs.YthcccgeeccjfiaaW.PrintLast Go.Proofs.YthcccgeeccjfiaaW.PrintMore
set_option linter.unusedVariables false
set_option linter.unusedSimpArgs false
theorem l01In_f (n lo hi : Int) : spec_l01In.f n lo hi = some (decide (lo ≤ n ∧ n ≤ hi)) := by
  unfold spec_l01In.f
  by_cases h : n ≥ lo
  · rw [if_pos h]; simp [show lo ≤ n from h]
  · rw [if_neg h]; simp [show ¬ lo ≤ n from h]
theorem all_take_succ {α : Type} (p : α → Bool) (l : List α) (n : Nat) (h : n < l.length) : (l.take (n + 1)).all p = ((l.take n).all p && p l[n]) := by
  rw [List.take_succ_eq_append_getElem h, List.all_append]; simp
theorem all_false_at {α : Type} (p : α → Bool) (l : List α) (n : Nat) (h : n < l.length) (hp : p l[n] = false) : l.all p = false := by
  rw [Bool.eq_false_iff]
  intro ha
  rw [List.all_eq_true] at ha
  rw [ha _ (List.getElem_mem h)] at hp
  cases hp
end Go.Proofs.Ythcccgeeccjfiaa.Pure
end
section
namespace Go.Proofs.Ythcccgeeccjfiaa.Pure
open Go.RowKit Go.Proofs.Ythcccgeeccjfiaa.P Go.Proofs.YthcccgeeccjfiaaW.PrintWords Go.Proofs.YthcccgeeccjfiaaW.PrintLast Go.Proofs.YthcccgeeccjfiaaW.PrintMore
set_option linter.unusedVariables false
set_option linter.unusedSimpArgs false
theorem ev_pos {α : Type} {c : Prop} [Decidable c] {A B : Nat → Option α} {r : α} (h : c) (e : Ev A r) : Ev (fun n => if c then A n else B n) r := Ev.congr (fun n => if_pos h) e
theorem ev_neg {α : Type} {c : Prop} [Decidable c] {A B : Nat → Option α} {r : α} (h : ¬ c) (e : Ev B r) : Ev (fun n => if c then A n else B n) r := Ev.congr (fun n => if_neg h) e
theorem ev_now {α : Type} (r : α) : Ev (fun _ => some r) r := Ev.now r
theorem ev_is {α : Type} {g : Option α} {r : α} (h : g = some r) : Ev (fun _ => g) r := by subst h; exact Ev.now r
theorem ev_bind {α β : Type} {g : Nat → Option α} {f : Nat → α → Option β} {a : α} {r : β} (h : Ev g a) (k : Ev (fun n => f n a) r) : Ev (fun n => (g n).bind (f n)) r := Ev.bind h k
theorem ev_fix {α β : Type} {g : Option α} {f : Nat → α → Option β} {a : α} {r : β} (h : g = some a) (k : Ev (fun n => f n a) r) : Ev (fun n => g.bind (f n)) r := by subst h; exact k
theorem ev_rounds {α : Type} {g : Nat → Option α} {r : α} (h : Ev g r) : ∃ k, g k = some r := h.rounds
theorem wrap_id {x : Int} (h1 : -9223372036854775808 ≤ x) (h2 : x ≤ 9223372036854775807) : wrap64 x = x := by unfold wrap64; omega
theorem wrap_succ {n : Nat} (h : n + 1 ≤ 9223372036854775807) : wrap64 ((n : Int) + 1) = ((n + 1 : Nat) : Int) := by rw [wrap_id (by omega) (by omega)]; omega
theorem rd_nat {l : List Int} {n : Nat} (h : n < l.length) : rd l (n : Int) = l[n] := by simp [rd, h]
end Go.Proofs.Ythcccgeeccjfiaa.Pure
end
section
namespace Go.Proofs.Ythcccgeeccjfiaa.Pure
open Go.RowKit Go.Proofs.Ythcccgeeccjfiaa.P Go.Proofs.YthcccgeeccjfiaaW.PrintWords Go.Proofs.YthcccgeeccjfiaaW.PrintLast Go.Proofs.YthcccgeeccjfiaaW.PrintMore
set_option linter.unusedVariables false
set_option linter.unusedSimpArgs false
theorem toInt64S_l0 (l : List Int) (hl : l.length ≤ 9223372036854775807) : ∀ d n : Nat, n + d = l.length → Ev (fun k => laws_toInt64S.l0 k l (l.take n ++ List.replicate d 0) (n : Int)) l := by
  intro d
  induction d with
  | zero =>
    intro n hn
    refine Ev.step (fun k => by rw [laws_toInt64S.l0]) ?_
    refine ev_neg (by omega) ?_
    rw [List.take_of_length_le (by omega), List.replicate_zero, List.append_nil]
    exact ev_now l
  | succ d ih =>
    intro n hn
    have hlt : n < l.length := by omega
    refine Ev.step (fun k => by rw [laws_toInt64S.l0]) ?_
    refine ev_pos (by omega) (ev_pos (by omega) (ev_pos ?_ ?_))
    · rw [List.length_append, List.length_take, List.length_replicate]; omega
    · rw [wrap_succ (by omega), rd_nat hlt, Int.toNat_natCast]
      have e : (l.take n ++ List.replicate (d + 1) 0).set n l[n] = l.take (n + 1) ++ List.replicate d 0 := by
        rw [List.set_append_right _ _ (by rw [List.length_take]; omega), List.length_take, Nat.min_eq_left (by omega), Nat.sub_self, List.replicate_succ, List.set_cons_zero, List.take_succ_eq_append_getElem hlt, List.append_assoc]
        rfl
      rw [e]
      exact ih (n + 1) (by omega)
/-- toInt64S hands back the list. -/
theorem toInt64S_ev (l : List Int) (hl : l.length ≤ 35184372088832) : Ev (fun k => laws_toInt64S.f k l) l := by
  unfold laws_toInt64S.f
  refine ev_pos (by omega) (ev_pos (by omega) ?_)
  rw [Int.toNat_natCast]
  exact toInt64S_l0 l (by omega) l.length 0 (by omega)
theorem eqInt64S_l0 (l : List Int) (hl : l.length ≤ 9223372036854775807) : ∀ d n : Nat, n + d = l.length → Ev (fun k => laws_eqInt64S.l0 k l l (n : Int)) true := by
  intro d
  induction d with
  | zero =>
    intro n hn
    refine Ev.step (fun k => by rw [laws_eqInt64S.l0]) ?_
    exact ev_neg (by omega) (ev_now true)
  | succ d ih =>
    intro n hn
    refine Ev.step (fun k => by rw [laws_eqInt64S.l0]) ?_
    refine ev_pos (by omega) (ev_pos (by omega) (ev_pos (by omega) (ev_pos rfl ?_)))
    rw [wrap_succ (by omega)]
    exact ih (n + 1) (by omega)
/-- eqInt64S says that a list is itself. -/
theorem eqInt64S_ev (l : List Int) (hl : l.length ≤ 9223372036854775807) : Ev (fun k => laws_eqInt64S.f k l l) true := by
  unfold laws_eqInt64S.f
  exact ev_pos rfl (eqInt64S_l0 l hl l.length 0 (by omega))
end Go.Proofs.Ythcccgeeccjfiaa.Pure
end
section
namespace Go.Proofs.Ythcccgeeccjfiaa.Pure
open Go.RowKit Go.Proofs.Ythcccgeeccjfiaa.P Go.Proofs.YthcccgeeccjfiaaW.PrintWords Go.Proofs.YthcccgeeccjfiaaW.PrintLast Go.Proofs.YthcccgeeccjfiaaW.PrintMore
set_option linter.unusedVariables false
set_option linter.unusedSimpArgs false
theorem szInt64S_f (l : List Int) (a : Int) (hl : l.length ≤ maxLen) (ha : 0 ≤ a ∧ a ≤ 1048576) : ∃ r, laws_szInt64S.f l a = some r ∧ (r < 0 ∨ (0 ≤ r ∧ r ≤ a ∧ (l.length : Int) ≤ a)) := by
  unfold laws_szInt64S.f
  unfold maxLen at hl
  rw [wrap_id (by omega) (by omega)]
  by_cases h : a - (l.length : Int) < 0
  · exact ⟨-1, by rw [if_pos h], .inl (by omega)⟩
  · exact ⟨a - l.length, by rw [if_neg h], .inr (by omega)⟩
end Go.Proofs.Ythcccgeeccjfiaa.Pure
end
section
namespace Go.Proofs.Ythcccgeeccjfiaa.Pure
open Go.RowKit Go.Proofs.Ythcccgeeccjfiaa.P Go.Proofs.YthcccgeeccjfiaaW.PrintWords Go.Proofs.YthcccgeeccjfiaaW.PrintLast Go.Proofs.YthcccgeeccjfiaaW.PrintMore
set_option linter.unusedVariables false
set_option linter.unusedSimpArgs false
theorem rdL_nat {l : List (List Int)} {n : Nat} (h : n < l.length) : rd_L1 l (n : Int) = l[n] := by simp [rd_L1, h]
theorem szInt64SS_l0 (l : List (List Int)) (hl : okRow (okRow (okInt .i64)) l) : ∀ d n : Nat, n + d = l.length → ∀ a : Int, 0 ≤ a ∧ a ≤ 1048576 →
    ∃ r, Ev (fun k => laws_szInt64SS.l0 k l a (n : Int)) r ∧ (r < 0 ∨ (0 ≤ r ∧ r ≤ a ∧ ∀ x ∈ l.drop n, x.length ≤ 1048576)) := by
  have hm := hl.1
  unfold maxLen at hm
  intro d
  induction d with
  | zero =>
    intro n hn a ha
    refine ⟨a, ?_, .inr ⟨ha.1, by omega, by rw [List.drop_of_length_le (by omega)]; simp⟩⟩
    refine Ev.step (fun k => by rw [laws_szInt64SS.l0]) ?_
    exact ev_neg (by omega) (ev_now _)
  | succ d ih =>
    intro n hn a ha
    have hlt : n < l.length := by omega
    obtain ⟨r, hr, h⟩ := szInt64S_f l[n] a (hl.2 _ (List.getElem_mem hlt)).1 ha
    rcases h with h | ⟨h1, h2, h3⟩
    · refine ⟨-1, ?_, .inl (by omega)⟩
      refine Ev.step (fun k => by rw [laws_szInt64SS.l0]) ?_
      rw [rdL_nat hlt]
      exact ev_pos (by omega) (ev_pos (by omega) (ev_fix hr (ev_pos h (ev_now _))))
    · obtain ⟨q, hq, hh⟩ := ih (n + 1) (by omega) r (by omega)
      refine ⟨q, ?_, ?_⟩
      · refine Ev.step (fun k => by rw [laws_szInt64SS.l0]) ?_
        rw [rdL_nat hlt, wrap_succ (by omega)]
        exact ev_pos (by omega) (ev_pos (by omega) (ev_fix hr (ev_neg (by omega) hq)))
      · rcases hh with hh | ⟨g1, g2, g3⟩
        · exact .inl hh
        · refine .inr ⟨g1, by omega, fun x hx => ?_⟩
          rw [List.drop_eq_getElem_cons hlt] at hx
          rcases List.mem_cons.1 hx with rfl | hx
          · omega
          · exact g3 x hx
theorem szInt64SS_ev (l : List (List Int)) (hl : okRow (okRow (okInt .i64)) l) (a : Int) (ha : 0 ≤ a ∧ a ≤ 1048576) :
    ∃ r, Ev (fun k => laws_szInt64SS.f k l a) r ∧ (r < 0 ∨ (0 ≤ r ∧ r ≤ a ∧ l.length ≤ 1048576 ∧ ∀ x ∈ l, x.length ≤ 1048576)) := by
  have hm := hl.1
  unfold maxLen at hm
  by_cases h : a - (l.length : Int) < 0
  · refine ⟨-1, ?_, .inl (by omega)⟩
    unfold laws_szInt64SS.f
    rw [wrap_id (by omega) (by omega)]
    exact ev_pos h (ev_now _)
  · obtain ⟨r, hr, hh⟩ := szInt64SS_l0 l hl l.length 0 (by omega) (a - l.length) (by omega)
    refine ⟨r, ?_, ?_⟩
    · unfold laws_szInt64SS.f
      rw [wrap_id (by omega) (by omega)]
      exact ev_neg h hr
    · rcases hh with hh | ⟨g1, g2, g3⟩
      · exact .inl hh
      · exact .inr ⟨g1, by omega, by omega, fun x hx => g3 x (by simpa using hx)⟩
theorem toInt64SS_l0 (l : List (List Int)) (hl : l.length ≤ 1048576) (hx : ∀ x ∈ l, x.length ≤ 1048576) : ∀ d n : Nat, n + d = l.length → Ev (fun k => laws_toInt64SS.l0 k l (l.take n ++ List.replicate d []) (n : Int)) l := by
  intro d
  induction d with
  | zero =>
    intro n hn
    refine Ev.step (fun k => by rw [laws_toInt64SS.l0]) ?_
    refine ev_neg (by omega) ?_
    rw [List.take_of_length_le (by omega), List.replicate_zero, List.append_nil]
    exact ev_now l
  | succ d ih =>
    intro n hn
    have hlt : n < l.length := by omega
    refine Ev.step (fun k => by rw [laws_toInt64SS.l0]) ?_
    rw [rdL_nat hlt, wrap_succ (by omega), Int.toNat_natCast]
    refine ev_pos (by omega) (ev_pos (by omega) (ev_bind (toInt64S_ev l[n] (by have := hx _ (List.getElem_mem hlt); omega)) (ev_pos ?_ ?_)))
    · rw [List.length_append, List.length_take, List.length_replicate]; omega
    · have e : (l.take n ++ List.replicate (d + 1) []).set n l[n] = l.take (n + 1) ++ List.replicate d [] := by
        rw [List.set_append_right _ _ (by rw [List.length_take]; omega), List.length_take, Nat.min_eq_left (by omega), Nat.sub_self, List.replicate_succ, List.set_cons_zero, List.take_succ_eq_append_getElem hlt, List.append_assoc]
        rfl
      rw [e]
      exact ih (n + 1) (by omega)
theorem toInt64SS_ev (l : List (List Int)) (hl : l.length ≤ 1048576) (hx : ∀ x ∈ l, x.length ≤ 1048576) : Ev (fun k => laws_toInt64SS.f k l) l := by
  unfold laws_toInt64SS.f
  refine ev_pos (by omega) (ev_pos (by omega) ?_)
  rw [Int.toNat_natCast]
  exact toInt64SS_l0 l hl hx l.length 0 (by omega)
theorem eqInt64SS_l0 (l : List (List Int)) (hl : l.length ≤ 1048576) (hx : ∀ x ∈ l, x.length ≤ 1048576) : ∀ d n : Nat, n + d = l.length → Ev (fun k => laws_eqInt64SS.l0 k l l (n : Int)) true := by
  intro d
  induction d with
  | zero =>
    intro n hn
    refine Ev.step (fun k => by rw [laws_eqInt64SS.l0]) ?_
    exact ev_neg (by omega) (ev_now true)
  | succ d ih =>
    intro n hn
    have hlt : n < l.length := by omega
    refine Ev.step (fun k => by rw [laws_eqInt64SS.l0]) ?_
    rw [rdL_nat hlt, wrap_succ (by omega)]
    exact ev_pos (by omega) (ev_pos (by omega) (ev_pos (by omega) (ev_bind (eqInt64S_ev l[n] (by have := hx _ (List.getElem_mem hlt); omega)) (ev_pos rfl (ih (n + 1) (by omega))))))
theorem eqInt64SS_ev (l : List (List Int)) (hl : l.length ≤ 1048576) (hx : ∀ x ∈ l, x.length ≤ 1048576) : Ev (fun k => laws_eqInt64SS.f k l l) true := by
  unfold laws_eqInt64SS.f
  exact ev_pos rfl (eqInt64SS_l0 l hl hx l.length 0 (by omega))
end Go.Proofs.Ythcccgeeccjfiaa.Pure
end
section
namespace Go.Proofs.Ythcccgeeccjfiaa.Pure
open Go.RowKit Go.Proofs.Ythcccgeeccjfiaa.P Go.Proofs.YthcccgeeccjfiaaW.PrintWords Go.Proofs.YthcccgeeccjfiaaW.PrintLast Go.Proofs.YthcccgeeccjfiaaW.PrintMore
set_option linter.unusedVariables false
set_option linter.unusedSimpArgs false
def isTurns (l : List Int) (k : Int) : Bool := decide (1 ≤ (l.length : Int) ∧ (l.length : Int) ≤ 120) && l.all fun i => decide (-1 ≤ i ∧ i ≤ wrap64 (k - 1))
theorem l01Turns_l0 (l : List Int) (m : Int) (hl : l.length ≤ 9223372036854775807) : ∀ d n : Nat, n + d = l.length → (l.take n).all (fun i => decide (-1 ≤ i ∧ i ≤ wrap64 (m - 1))) = true → Ev (fun k => spec_l01Turns.l0 k l m (n : Int)) (isTurns l m) := by
  intro d
  induction d with
  | zero =>
    intro n hn ha
    refine Ev.step (fun k => by rw [spec_l01Turns.l0]) ?_
    refine ev_neg (by omega) (ev_fix (l01In_f _ _ _) ?_)
    rw [List.take_of_length_le (by omega)] at ha
    refine ev_is ?_
    rw [isTurns, ha, Bool.and_true]
  | succ d ih =>
    intro n hn ha
    have hlt : n < l.length := by omega
    refine Ev.step (fun k => by rw [spec_l01Turns.l0]) ?_
    refine ev_pos (by omega) (ev_pos (by omega) (ev_fix (l01In_f _ _ _) ?_))
    rw [rd_nat hlt]
    cases hq : decide (-1 ≤ l[n] ∧ l[n] ≤ wrap64 (m - 1)) with
    | true =>
      refine ev_pos rfl ?_
      rw [wrap_succ (by omega)]
      exact ih (n + 1) (by omega) (by rw [all_take_succ _ _ _ hlt, ha, hq]; rfl)
    | false =>
      refine ev_neg (by simp) (ev_is ?_)
      rw [isTurns, all_false_at _ l n hlt hq, Bool.and_false]
theorem l01Turns_ev (l : List Int) (m : Int) (hl : l.length ≤ 9223372036854775807) : Ev (fun k => spec_l01Turns.f k l m) (isTurns l m) := by
  unfold spec_l01Turns.f
  exact l01Turns_l0 l m hl l.length 0 (by omega) (by simp)
theorem isTurns_len {l : List Int} {k : Int} (h : isTurns l k = true) : 1 ≤ l.length ∧ l.length ≤ 120 := by
  rw [isTurns, Bool.and_eq_true] at h
  have := of_decide_eq_true h.1
  omega
end Go.Proofs.Ythcccgeeccjfiaa.Pure
end
section
namespace Go.Proofs.Ythcccgeeccjfiaa.Pure
open Go.RowKit Go.Proofs.Ythcccgeeccjfiaa.P Go.Proofs.YthcccgeeccjfiaaW.PrintWords Go.Proofs.YthcccgeeccjfiaaW.PrintLast Go.Proofs.YthcccgeeccjfiaaW.PrintMore
set_option linter.unusedVariables false
set_option linter.unusedSimpArgs false
def isChan (k : Int) (l : List (List Int)) : Bool := decide (1 ≤ k ∧ k ≤ 8) && (decide (1 ≤ (l.length : Int) ∧ (l.length : Int) ≤ 4) && l.all (chanB k l))
theorem areChannels_f (k : Int) (l : List (List Int)) : impl_areChannels.f k l = some (isChan k l) := rfl
theorem turnsB_eq (k : Int) (t : List Int) : turnsB k t = isTurns t k := rfl
theorem l08Are_l0 (k : Int) (l : List (List Int)) (hl : 1 ≤ l.length ∧ l.length ≤ 4) (hx : ∀ x ∈ l, x.length ≤ 1048576) : ∀ d n : Nat, n + d = l.length → (l.take n).all (chanB k l) = true →
    Ev (fun q => spec_l08Are.l0 q k l (n : Int)) (l.all (chanB k l)) := by
  intro d
  induction d with
  | zero =>
    intro n hn ha
    rw [List.take_of_length_le (by omega)] at ha
    rw [ha]
    refine Ev.step (fun q => by rw [spec_l08Are.l0]) ?_
    exact ev_neg (by omega) (ev_now _)
  | succ d ih =>
    intro n hn ha
    have hlt : n < l.length := by omega
    refine Ev.step (fun q => by rw [spec_l08Are.l0]) ?_
    rw [rdL_nat hlt, wrap_succ (by omega)]
    refine ev_pos (by omega) (ev_pos (by omega) (ev_bind (l01Turns_ev l[n] k (by have := hx _ (List.getElem_mem hlt); omega)) ?_))
    have hf : chanB k l l[n] = false → l.all (chanB k l) = false := fun h => by
      rw [List.all_eq_false]
      exact ⟨l[n], List.getElem_mem hlt, by rw [h]; simp⟩
    cases ht : isTurns l[n] k with
    | false => exact ev_neg (by simp) (ev_is (by rw [hf (by rw [chanB, turnsB_eq, ht, Bool.false_and])]))
    | true =>
      refine ev_pos rfl (ev_pos (by omega) ?_)
      by_cases c : (l[n].length : Int) = ((rd_L1 l 0).length : Int)
      · refine ev_pos c (ih (n + 1) (by omega) ?_)
        rw [List.take_succ_eq_append_getElem hlt, List.all_append, ha]
        simp [chanB, turnsB_eq, ht, c]
      · refine ev_neg c (ev_is ?_)
        rw [hf (by rw [chanB, turnsB_eq, ht, Bool.true_and]; exact beq_eq_false_iff_ne.2 c)]
theorem l08Are_ev (k : Int) (l : List (List Int)) (hx : ∀ x ∈ l, x.length ≤ 1048576) : Ev (fun q => spec_l08Are.f q k l) (isChan k l) := by
  unfold spec_l08Are.f
  refine ev_fix (l01In_f _ _ _) ?_
  by_cases hk : 1 ≤ k ∧ k ≤ 8
  · refine ev_pos (decide_eq_true hk) ?_
    by_cases h1 : (l.length : Int) < 1
    · refine ev_pos h1 ?_
      refine Ev.step (fun q => by rw [spec_l08Are.j0]) ?_
      refine ev_pos rfl (ev_is ?_)
      rw [isChan, decide_eq_false (p := 1 ≤ (l.length : Int) ∧ (l.length : Int) ≤ 4) (by omega), Bool.false_and, Bool.and_false]
    · refine ev_neg h1 ?_
      refine Ev.step (fun q => by rw [spec_l08Are.j0]) ?_
      by_cases h4 : (l.length : Int) > 4
      · refine ev_pos (decide_eq_true h4) (ev_is ?_)
        rw [isChan, decide_eq_false (p := 1 ≤ (l.length : Int) ∧ (l.length : Int) ≤ 4) (by omega), Bool.false_and, Bool.and_false]
      · refine ev_neg (by rw [decide_eq_false h4]; simp) ?_
        rw [isChan, decide_eq_true hk, Bool.true_and, decide_eq_true (p := 1 ≤ (l.length : Int) ∧ (l.length : Int) ≤ 4) (by omega), Bool.true_and]
        exact l08Are_l0 k l (by omega) hx l.length 0 (by omega) (by simp)
  · refine ev_neg (by rw [decide_eq_false hk]; simp) ?_
    refine Ev.step (fun q => by rw [spec_l08Are.j0]) ?_
    refine ev_pos rfl (ev_is ?_)
    rw [isChan, decide_eq_false hk, Bool.false_and]
end Go.Proofs.Ythcccgeeccjfiaa.Pure
end
section
namespace Go.Proofs.Ythcccgeeccjfiaa.Pure
set_option linter.unusedVariables false
set_option linter.unusedSimpArgs false
/-- how often x stands in a list -/
def cnt (x : Int) : List Int → Int
  | [] => 0
  | y :: l => (if y = x then 1 else 0) + cnt x l
theorem cnt_append (x : Int) (a b : List Int) : cnt x (a ++ b) = cnt x a + cnt x b := by
  induction a with
  | nil => simp [cnt]
  | cons y a ih => simp only [List.cons_append, cnt, ih]; omega
theorem cnt_bounds (x : Int) (l : List Int) : 0 ≤ cnt x l ∧ cnt x l ≤ l.length := by
  induction l with
  | nil => simp [cnt]
  | cons y l ih =>
    simp only [cnt, List.length_cons]
    split <;> omega
end Go.Proofs.Ythcccgeeccjfiaa.Pure
end
section
namespace Go.Proofs.Ythcccgeeccjfiaa.Pure
open Go.RowKit Go.Proofs.Ythcccgeeccjfiaa.P Go.Proofs.YthcccgeeccjfiaaW.PrintWords Go.Proofs.YthcccgeeccjfiaaW.PrintLast Go.Proofs.YthcccgeeccjfiaaW.PrintMore
set_option linter.unusedVariables false
set_option linter.unusedSimpArgs false
def chanHas (l : List (List Int)) (s : Nat) (i : Int) : Int := cnt i (l.map fun t => rd t (s : Int))
theorem chanHas_succ (l : List (List Int)) (s : Nat) (i : Int) (n : Nat) (h : n < l.length) : chanHas (l.take (n + 1)) s i = chanHas (l.take n) s i + (if rd l[n] (s : Int) = i then 1 else 0) := by
  unfold chanHas
  rw [List.take_succ_eq_append_getElem h, List.map_append, cnt_append]
  simp [cnt]
theorem chanHas_bounds (l : List (List Int)) (s : Nat) (i : Int) : 0 ≤ chanHas l s i ∧ chanHas l s i ≤ l.length := by
  have := cnt_bounds i (l.map fun t => rd t (s : Int))
  rw [List.length_map] at this
  exact this
structure Chan (k : Int) (l : List (List Int)) : Prop where
  k8 : 1 ≤ k ∧ k ≤ 8
  len : 1 ≤ l.length ∧ l.length ≤ 4
  turns : ∀ x ∈ l, isTurns x k = true
  row : ∀ x ∈ l, x.length = (rd_L1 l 0).length
  slots : 1 ≤ (rd_L1 l 0).length ∧ (rd_L1 l 0).length ≤ 120
theorem isChan_chan {k : Int} {l : List (List Int)} (h : isChan k l = true) : Chan k l := by
  unfold isChan at h
  rw [Bool.and_eq_true, Bool.and_eq_true, List.all_eq_true] at h
  obtain ⟨h1, h2, h3⟩ := h
  have h1 := of_decide_eq_true h1
  have h2 := of_decide_eq_true h2
  have h4 : ∀ x ∈ l, isTurns x k = true ∧ x.length = (rd_L1 l 0).length := fun x hx => by
    have := h3 x hx
    unfold chanB at this
    rw [Bool.and_eq_true, turnsB_eq, beq_iff_eq] at this
    exact ⟨this.1, by omega⟩
  have h0 : (0 : Int) = ((0 : Nat) : Int) := rfl
  have hm : rd_L1 l 0 ∈ l := by
    rw [h0, rdL_nat (by omega)]
    exact List.getElem_mem (by omega)
  exact ⟨h1, by omega, fun x hx => (h4 x hx).1, fun x hx => (h4 x hx).2, isTurns_len (h4 _ hm).1⟩
theorem l08Has_ev (k : Int) (l : List (List Int)) (C : Chan k l) (s : Nat) (hs : s < (rd_L1 l 0).length) (i : Int) : Ev (fun q => spec_l08Has.f q l (s : Int) i) (chanHas l s i) := by
  have hl := C.len
  have main : ∀ d n : Nat, n + d = l.length → Ev (fun q => spec_l08Has.l0 q l (s : Int) i (chanHas (l.take n) s i) (n : Int)) (chanHas l s i) := by
    intro d
    induction d with
    | zero =>
      intro n hn
      rw [List.take_of_length_le (by omega)]
      refine Ev.step (fun q => by rw [spec_l08Has.l0]) ?_
      exact ev_neg (by omega) (ev_now _)
    | succ d ih =>
      intro n hn
      have hlt : n < l.length := by omega
      have hr := C.row _ (List.getElem_mem hlt)
      have hb := chanHas_bounds (l.take n) s i
      rw [List.length_take] at hb
      have ih := ih (n + 1) (by omega)
      rw [chanHas_succ _ _ _ _ hlt] at ih
      refine Ev.step (fun q => by rw [spec_l08Has.l0]) ?_
      rw [rdL_nat hlt, wrap_succ (by omega)]
      refine ev_pos (by omega) (ev_pos (by omega) (ev_pos (by omega) (ev_pos (by omega) ?_)))
      by_cases c : rd l[n] (s : Int) = i
      · rw [if_pos c] at ih
        refine ev_pos c ?_
        rw [wrap_id (by omega) (by omega)]
        exact ih
      · rw [if_neg c, Int.add_zero] at ih
        exact ev_neg c ih
  unfold spec_l08Has.f
  exact main l.length 0 (by omega)
end Go.Proofs.Ythcccgeeccjfiaa.Pure
end
section
namespace Go.Proofs.Ythcccgeeccjfiaa.Pure
open Go.RowKit Go.Proofs.Ythcccgeeccjfiaa.P Go.Proofs.YthcccgeeccjfiaaW.PrintWords Go.Proofs.YthcccgeeccjfiaaW.PrintLast Go.Proofs.YthcccgeeccjfiaaW.PrintMore
set_option linter.unusedVariables false
set_option linter.unusedSimpArgs false
def clI (l : List (List Int)) (s : Nat) : Nat → Nat → List (List Int) → List (List Int)
  | 0, _, acc => acc
  | d + 1, i, acc => clI l s d (i + 1) (if chanHas l s (i : Int) > 1 then acc ++ [[(s : Int), (i : Int)]] else acc)
def clS (l : List (List Int)) (k : Nat) : Nat → Nat → List (List Int) → List (List Int)
  | 0, _, acc => acc
  | d + 1, s, acc => clS l k d (s + 1) (clI l s k 0 acc)
def clashL (l : List (List Int)) (k : Nat) : List (List Int) := clS l k (rd_L1 l 0).length 0 []
theorem clI_length (l : List (List Int)) (s : Nat) : ∀ d i acc, (clI l s d i acc).length ≤ acc.length + d := by
  intro d
  induction d with
  | zero => intro i acc; exact Nat.le_refl _
  | succ d ih =>
    intro i acc
    have h := ih (i + 1) (if chanHas l s (i : Int) > 1 then acc ++ [[(s : Int), (i : Int)]] else acc)
    rw [clI]
    split at h
    · next c => rw [if_pos c]; rw [List.length_append, List.length_singleton] at h; omega
    · next c => rw [if_neg c]; omega
theorem spec_clashes_l1 (k : Int) (l : List (List Int)) (C : Chan k l) (s : Nat) (hs : s < (rd_L1 l 0).length) (R : List (List Int)) : ∀ d i : Nat, ((i + d : Nat) : Int) = k → ∀ acc : List (List Int), acc.length + d ≤ 1000000 →
    Ev (fun q => spec_l08Clashes.l0 q k l (clI l s d i acc) ((s + 1 : Nat) : Int)) R → Ev (fun q => spec_l08Clashes.l1 q k l acc (s : Int) (i : Int)) R := by
  have hN := C.slots
  have hk := C.k8
  intro d
  induction d with
  | zero =>
    intro i hi acc _ hR
    refine Ev.step (fun q => by rw [spec_l08Clashes.l1]) ?_
    rw [wrap_succ (n := s) (by omega)]
    exact ev_neg (by omega) hR
  | succ d ih =>
    intro i hi acc ha hR
    refine Ev.step (fun q => by rw [spec_l08Clashes.l1]) ?_
    rw [wrap_succ (n := i) (by omega)]
    refine ev_pos (by omega) (ev_bind (l08Has_ev k l C s hs i) ?_)
    have ih := ih (i + 1) (by omega) (if chanHas l s (i : Int) > 1 then acc ++ [[(s : Int), (i : Int)]] else acc)
    by_cases c : chanHas l s (i : Int) > 1
    · rw [if_pos c] at ih
      rw [clI, if_pos c] at hR
      exact ev_pos c (ev_pos (by omega) (ih (by rw [List.length_append, List.length_singleton]; omega) hR))
    · rw [if_neg c] at ih
      rw [clI, if_neg c] at hR
      exact ev_neg c (ih (by omega) hR)
theorem l08Clashes_ev (k : Int) (l : List (List Int)) (C : Chan k l) : Ev (fun q => spec_l08Clashes.f q k l) (clashL l k.toNat) := by
  have hl := C.len
  have hN := C.slots
  have hk := C.k8
  have main : ∀ d s : Nat, s + d = (rd_L1 l 0).length → ∀ acc : List (List Int), acc.length + 8 * d ≤ 100000 → Ev (fun q => spec_l08Clashes.l0 q k l acc (s : Int)) (clS l k.toNat d s acc) := by
    intro d
    induction d with
    | zero =>
      intro s hs acc _
      refine Ev.step (fun q => by rw [spec_l08Clashes.l0]) ?_
      exact ev_pos (by omega) (ev_neg (by omega) (ev_now _))
    | succ d ih =>
      intro s hs acc ha
      have h1 := clI_length l s k.toNat 0 acc
      refine Ev.step (fun q => by rw [spec_l08Clashes.l0]) ?_
      exact ev_pos (by omega) (ev_pos (by omega) (spec_clashes_l1 k l C s (by omega) _ k.toNat 0 (by omega) acc (by omega) (ih (s + 1) (by omega) _ (by omega))))
  unfold spec_l08Clashes.f
  exact main (rd_L1 l 0).length 0 (by omega) [] (by simp; omega)
theorem impl_clashes_l2 (k : Int) (l : List (List Int)) (C : Chan k l) (s i : Nat) (hs : s < (rd_L1 l 0).length) (hi : (i : Int) < k) (acc : List (List Int)) (ha : acc.length ≤ 1000000) (R : List (List Int))
    (hR : Ev (fun q => impl_clashes.l1 q k l (if chanHas l s (i : Int) > 1 then acc ++ [[(s : Int), (i : Int)]] else acc) (s : Int) ((rd_L1 l 0).length : Int) (s : Int) k ((i + 1 : Nat) : Int)) R) : ∀ d n : Nat, n + d = l.length →
    Ev (fun q => impl_clashes.l2 q k l acc (s : Int) (i : Int) (chanHas (l.take n) s i) ((rd_L1 l 0).length : Int) (s : Int) k (i : Int) l (l.length : Int) (n : Int)) R := by
  have hl := C.len
  have hN := C.slots
  have hk := C.k8
  intro d
  induction d with
  | zero =>
    intro n hn
    rw [List.take_of_length_le (by omega)]
    refine Ev.step (fun q => by rw [impl_clashes.l2]) ?_
    rw [wrap_succ (n := i) (by omega)]
    refine ev_neg (by omega) ?_
    by_cases c : chanHas l s (i : Int) > 1
    · rw [if_pos c] at hR
      exact ev_pos c (ev_pos (by omega) hR)
    · rw [if_neg c] at hR
      exact ev_neg c hR
  | succ d ih =>
    intro n hn
    have hlt : n < l.length := by omega
    have hr := C.row _ (List.getElem_mem hlt)
    have hb := chanHas_bounds (l.take n) s i
    rw [List.length_take] at hb
    have ih := ih (n + 1) (by omega)
    rw [chanHas_succ _ _ _ _ hlt] at ih
    refine Ev.step (fun q => by rw [impl_clashes.l2]) ?_
    rw [rdL_nat hlt, wrap_succ (n := n) (by omega)]
    refine ev_pos (by omega) (ev_pos (by omega) (ev_pos (by omega) (ev_pos (by omega) (ev_pos (by omega) ?_))))
    by_cases c : rd l[n] (s : Int) = (i : Int)
    · rw [if_pos c] at ih
      refine ev_pos c ?_
      rw [wrap_id (by omega) (by omega)]
      exact ih
    · rw [if_neg c, Int.add_zero] at ih
      exact ev_neg c ih
theorem impl_clashes_l1 (k : Int) (l : List (List Int)) (C : Chan k l) (s : Nat) (hs : s < (rd_L1 l 0).length) (R : List (List Int)) : ∀ d i : Nat, ((i + d : Nat) : Int) = k → ∀ acc : List (List Int), acc.length + d ≤ 1000000 →
    Ev (fun q => impl_clashes.l0 q k l (clI l s d i acc) ((rd_L1 l 0).length : Int) ((s + 1 : Nat) : Int)) R → Ev (fun q => impl_clashes.l1 q k l acc (s : Int) ((rd_L1 l 0).length : Int) (s : Int) k (i : Int)) R := by
  have hN := C.slots
  have hk := C.k8
  intro d
  induction d with
  | zero =>
    intro i hi acc _ hR
    refine Ev.step (fun q => by rw [impl_clashes.l1]) ?_
    rw [wrap_succ (n := s) (by omega)]
    exact ev_neg (by omega) hR
  | succ d ih =>
    intro i hi acc ha hR
    have h0 := impl_clashes_l2 k l C s i hs (by omega) acc (by omega) R ?_ l.length 0 (by omega)
    · refine Ev.step (fun q => by rw [impl_clashes.l1]) ?_
      exact ev_pos (by omega) h0
    · rw [clI] at hR
      refine ih (i + 1) (by omega) _ ?_ hR
      split
      · rw [List.length_append, List.length_singleton]; omega
      · omega
theorem clashes_ev (k : Int) (l : List (List Int)) (C : Chan k l) : Ev (fun q => impl_clashes.f q k l) (clashL l k.toNat) := by
  have hl := C.len
  have hN := C.slots
  have hk := C.k8
  have main : ∀ d s : Nat, s + d = (rd_L1 l 0).length → ∀ acc : List (List Int), acc.length + 8 * d ≤ 100000 → Ev (fun q => impl_clashes.l0 q k l acc ((rd_L1 l 0).length : Int) (s : Int)) (clS l k.toNat d s acc) := by
    intro d
    induction d with
    | zero =>
      intro s hs acc _
      refine Ev.step (fun q => by rw [impl_clashes.l0]) ?_
      exact ev_neg (by omega) (ev_now _)
    | succ d ih =>
      intro s hs acc ha
      have h1 := clI_length l s k.toNat 0 acc
      refine Ev.step (fun q => by rw [impl_clashes.l0]) ?_
      exact ev_pos (by omega) (impl_clashes_l1 k l C s (by omega) _ k.toNat 0 (by omega) acc (by omega) (ih (s + 1) (by omega) _ (by omega)))
  unfold impl_clashes.f
  exact ev_pos (by omega) (main (rd_L1 l 0).length 0 (by omega) [] (by simp; omega))
theorem clS_length (l : List (List Int)) (k : Nat) : ∀ d s acc, (clS l k d s acc).length ≤ acc.length + d * k := by
  intro d
  induction d with
  | zero => intro s acc; rw [clS]; omega
  | succ d ih =>
    intro s acc
    have h := ih (s + 1) (clI l s k 0 acc)
    have h1 := clI_length l s k 0 acc
    rw [clS, Nat.succ_mul]
    omega
end Go.Proofs.Ythcccgeeccjfiaa.Pure
end
section
namespace Go.Proofs.Ythcccgeeccjfiaa.Pure
open Go.RowKit Go.Proofs.Ythcccgeeccjfiaa.P Go.Proofs.YthcccgeeccjfiaaW.PrintWords Go.Proofs.YthcccgeeccjfiaaW.PrintLast Go.Proofs.YthcccgeeccjfiaaW.PrintMore
set_option linter.unusedVariables false
set_option linter.unusedSimpArgs false
/-- the numbers from m on -/
def upFrom (m : Int) : Nat → List Int
  | 0 => []
  | n + 1 => m :: upFrom (m + 1) n
theorem upFrom_length (n : Nat) : ∀ m, (upFrom m n).length = n := by
  induction n with
  | zero => intro m; rfl
  | succ n ih => intro m; simp [upFrom, ih]
theorem upFrom_get (n : Nat) : ∀ (m : Int) (j : Nat), j < n → (upFrom m n)[j]? = some (m + j) := by
  induction n with
  | zero => intro m j h; omega
  | succ n ih =>
    intro m j h
    cases j with
    | zero => simp [upFrom]
    | succ j => simp only [upFrom, List.getElem?_cons_succ]; rw [ih (m + 1) j (by omega)]; congr 1; omega
theorem upFrom_succ (n : Nat) (m : Int) : upFrom m (n + 1) = upFrom m n ++ [m + n] := by
  apply List.ext_getElem?
  intro j
  rcases Nat.lt_or_ge j n with h | h
  · rw [upFrom_get _ _ _ (by omega), List.getElem?_append_left (by rw [upFrom_length]; exact h), upFrom_get _ _ _ h]
  · rw [List.getElem?_append_right (by rw [upFrom_length]; exact h), upFrom_length]
    rcases Nat.eq_or_lt_of_le h with rfl | h
    · rw [upFrom_get _ _ _ (by omega)]; simp
    · rw [List.getElem?_eq_none (by rw [upFrom_length]; omega), List.getElem?_eq_none (by simp; omega)]
theorem markInt64S_l0 (l : List Int) (m : Int) (h0 : 0 ≤ m) (hl : m + l.length ≤ 9223372036854775807) : ∀ d n : Nat, n + d = l.length → Ev (fun k => laws_markInt64S.l0 k (upFrom m n ++ l.drop n) (m + n) (n : Int)) (m + l.length, upFrom m l.length) := by
  intro d
  induction d with
  | zero =>
    intro n hn
    refine Ev.step (fun k => by rw [laws_markInt64S.l0]) ?_
    refine ev_neg (by rw [List.length_append, upFrom_length, List.length_drop]; omega) ?_
    rw [List.drop_of_length_le (by omega), List.append_nil, show n = l.length by omega]
    exact ev_now _
  | succ d ih =>
    intro n hn
    have hlt : n < l.length := by omega
    refine Ev.step (fun k => by rw [laws_markInt64S.l0]) ?_
    refine ev_pos (by rw [List.length_append, upFrom_length, List.length_drop]; omega) (ev_pos (by omega) ?_)
    rw [wrap_succ (by omega), wrap_id (x := m + n + 1) (by omega) (by omega), Int.toNat_natCast]
    have e : (upFrom m n ++ l.drop n).set n (m + n) = upFrom m (n + 1) ++ l.drop (n + 1) := by
      rw [List.set_append_right _ _ (by rw [upFrom_length]; omega), upFrom_length, Nat.sub_self, List.drop_eq_getElem_cons hlt, List.set_cons_zero, upFrom_succ, List.append_assoc]
      rfl
    rw [e, show m + (n : Int) + 1 = m + ((n + 1 : Nat) : Int) by omega]
    exact ih (n + 1) (by omega)
theorem markInt64S_ev (l : List Int) (m : Int) (h0 : 0 ≤ m) (hl : m + l.length ≤ 9223372036854775807) : Ev (fun k => laws_markInt64S.f k l m) (m + l.length, upFrom m l.length) := by
  unfold laws_markInt64S.f
  have h := markInt64S_l0 l m h0 hl l.length 0 (by omega)
  simpa [upFrom] using h
theorem heldInt64S_l0 (m : Int) (h0 : 0 ≤ m) (N : Nat) (hl : m + N ≤ 9223372036854775807) : ∀ d n : Nat, n + d = N → Ev (fun k => laws_heldInt64S.l0 k (upFrom m N) (m + n) (n : Int)) (m + N) := by
  intro d
  induction d with
  | zero =>
    intro n hn
    refine Ev.step (fun k => by rw [laws_heldInt64S.l0]) ?_
    refine ev_neg (by rw [upFrom_length]; omega) ?_
    rw [show n = N by omega]
    exact ev_now _
  | succ d ih =>
    intro n hn
    refine Ev.step (fun k => by rw [laws_heldInt64S.l0]) ?_
    refine ev_pos (by rw [upFrom_length]; omega) (ev_pos (by omega) (ev_pos ?_ ?_))
    · have h := upFrom_get N m n (by omega)
      simp [rd, h]
    · rw [wrap_succ (by omega), wrap_id (x := m + n + 1) (by omega) (by omega), show m + (n : Int) + 1 = m + ((n + 1 : Nat) : Int) by omega]
      exact ih (n + 1) (by omega)
theorem heldInt64S_ev (m : Int) (h0 : 0 ≤ m) (N : Nat) (hl : m + N ≤ 9223372036854775807) : Ev (fun k => laws_heldInt64S.f k (upFrom m N) m) (m + N) := by
  unfold laws_heldInt64S.f
  have h := heldInt64S_l0 m h0 N hl N 0 (by omega)
  simpa using h
end Go.Proofs.Ythcccgeeccjfiaa.Pure
end
section
namespace Go.Proofs.Ythcccgeeccjfiaa.Pure
open Go.RowKit Go.Proofs.Ythcccgeeccjfiaa.P Go.Proofs.YthcccgeeccjfiaaW.PrintWords Go.Proofs.YthcccgeeccjfiaaW.PrintLast Go.Proofs.YthcccgeeccjfiaaW.PrintMore
set_option linter.unusedVariables false
set_option linter.unusedSimpArgs false
def marks : Int → List (List Int) → List (List Int)
  | _, [] => []
  | a, x :: l => upFrom a x.length :: marks (a + x.length) l
def markTot : Int → List (List Int) → Int
  | a, [] => a
  | a, x :: l => markTot (a + x.length) l
theorem markTot_le : ∀ (l : List (List Int)) (a : Int), a ≤ markTot a l := by
  intro l
  induction l with
  | nil => intro a; exact Int.le_refl _
  | cons x l ih => intro a; have := ih (a + x.length); rw [markTot]; omega
theorem rdL_mid (pre l : List (List Int)) (x : List Int) : rd_L1 (pre ++ x :: l) (pre.length : Int) = x := by
  rw [rdL_nat (by simp)]
  simp
theorem set_mid (pre l : List (List Int)) (x y : List Int) : (pre ++ x :: l).set pre.length y = pre ++ y :: l := by
  rw [List.set_append_right _ _ (Nat.le_refl _), Nat.sub_self, List.set_cons_zero]
theorem markInt64SS_l0 : ∀ (l pre : List (List Int)) (a : Int), 0 ≤ a → a + 1048576 * (l.length : Int) ≤ 4000000000000 → pre.length + l.length ≤ 1048576 → (∀ x ∈ l, x.length ≤ 1048576) →
    Ev (fun k => laws_markInt64SS.l0 k (pre ++ l) a (pre.length : Int)) (markTot a l, pre ++ marks a l) := by
  intro l
  induction l with
  | nil =>
    intro pre a _ _ _ _
    refine Ev.step (fun k => by rw [laws_markInt64SS.l0]) ?_
    rw [List.append_nil]
    exact ev_neg (by omega) (ev_is (by simp [marks, markTot]))
  | cons x l ih =>
    intro pre a h0 h1 h2 h3
    have hx := h3 x List.mem_cons_self
    rw [List.length_cons] at h1 h2
    refine Ev.step (fun k => by rw [laws_markInt64SS.l0]) ?_
    rw [rdL_mid, Int.toNat_natCast, wrap_succ (by omega)]
    refine ev_pos (by rw [List.length_append, List.length_cons]; omega) (ev_pos (by omega) (ev_bind (markInt64S_ev x a h0 (by omega)) ?_))
    have h := ih (pre ++ [upFrom a x.length]) (a + x.length) (by omega) (by omega) (by rw [List.length_append, List.length_singleton]; omega) (fun y hy => h3 y (List.mem_cons_of_mem _ hy))
    rw [List.append_assoc, List.append_assoc, List.length_append, List.length_singleton] at h
    show Ev (fun k => laws_markInt64SS.l0 k ((pre ++ x :: l).set pre.length (upFrom a x.length)) (a + x.length) ((pre.length + 1 : Nat) : Int)) _
    rw [set_mid]
    exact h
theorem heldInt64SS_l0 : ∀ (l pre : List (List Int)) (a : Int), 0 ≤ a → a + 1048576 * (l.length : Int) ≤ 4000000000000 → pre.length + l.length ≤ 1048576 → (∀ x ∈ l, x.length ≤ 1048576) →
    Ev (fun k => laws_heldInt64SS.l0 k (pre ++ marks a l) a (pre.length : Int)) (markTot a l) := by
  intro l
  induction l with
  | nil =>
    intro pre a _ _ _ _
    refine Ev.step (fun k => by rw [laws_heldInt64SS.l0]) ?_
    rw [marks, List.append_nil]
    exact ev_neg (by omega) (ev_now _)
  | cons x l ih =>
    intro pre a h0 h1 h2 h3
    have hx := h3 x List.mem_cons_self
    rw [List.length_cons] at h1 h2
    refine Ev.step (fun k => by rw [laws_heldInt64SS.l0]) ?_
    rw [marks, rdL_mid, wrap_succ (by omega)]
    refine ev_pos (by rw [List.length_append, List.length_cons]; omega) (ev_pos (by omega) (ev_bind (heldInt64S_ev a h0 x.length (by omega)) (ev_neg (by omega) ?_)))
    have h := ih (pre ++ [upFrom a x.length]) (a + x.length) (by omega) (by omega) (by rw [List.length_append, List.length_singleton]; omega) (fun y hy => h3 y (List.mem_cons_of_mem _ hy))
    rw [List.append_assoc, List.length_append, List.length_singleton] at h
    exact h
theorem marked_ev (l : List (List Int)) (h1 : l.length ≤ 1048576) (h2 : ∀ x ∈ l, x.length ≤ 1048576) : ∃ (m : Int) (x : List (List Int)),
    Ev (fun k => laws_markInt64SS.f k l 1) (m, x) ∧ 0 ≤ m ∧ Ev (fun k => laws_heldInt64SS.f k x 1) m := by
  refine ⟨markTot 1 l, marks 1 l, ?_, ?_, ?_⟩
  · unfold laws_markInt64SS.f
    exact markInt64SS_l0 l [] 1 (by omega) (by omega) (by simpa using h1) h2
  · have := markTot_le l 1
    omega
  · unfold laws_heldInt64SS.f
    exact heldInt64SS_l0 l [] 1 (by omega) (by omega) (by simpa using h1) h2
end Go.Proofs.Ythcccgeeccjfiaa.Pure
end
section
namespace Go.Proofs.Ythcccgeeccjfiaa.Pure
open Go.RowKit Go.Proofs.Ythcccgeeccjfiaa.P Go.Proofs.YthcccgeeccjfiaaW.PrintWords Go.Proofs.YthcccgeeccjfiaaW.PrintLast Go.Proofs.YthcccgeeccjfiaaW.PrintMore
set_option linter.unusedVariables false
set_option linter.unusedSimpArgs false
theorem clI_rows (l : List (List Int)) (s : Nat) : ∀ d i acc, (∀ x ∈ acc, x.length = 2) → ∀ x ∈ clI l s d i acc, x.length = 2 := by
  intro d
  induction d with
  | zero => intro i acc h; exact h
  | succ d ih =>
    intro i acc h
    rw [clI]
    refine ih _ _ ?_
    split
    · intro x hx
      rcases List.mem_append.1 hx with hx | hx
      · exact h x hx
      · rw [List.mem_singleton.1 hx]; rfl
    · exact h
theorem clS_rows (l : List (List Int)) (k : Nat) : ∀ d s acc, (∀ x ∈ acc, x.length = 2) → ∀ x ∈ clS l k d s acc, x.length = 2 := by
  intro d
  induction d with
  | zero => intro s acc h; exact h
  | succ d ih =>
    intro s acc h
    rw [clS]
    exact ih _ _ (clI_rows l s k 0 acc h)
def clashR (k : Int) (l : List (List Int)) : List (List Int) × Int := if isChan k l = true then (clashL l k.toNat, 0) else ([], 2)
theorem clashR_small (k : Int) (l : List (List Int)) : (clashR k l).1.length ≤ 1000 ∧ ∀ x ∈ (clashR k l).1, x.length ≤ 1000 := by
  unfold clashR
  split
  · next h =>
    have C := isChan_chan h
    have hk := C.k8
    have hN := C.slots
    have h1 := clS_length l k.toNat (rd_L1 l 0).length 0 []
    have h2 : (rd_L1 l 0).length * k.toNat ≤ 120 * 8 := Nat.mul_le_mul hN.2 (by omega)
    refine ⟨by show (clS l k.toNat (rd_L1 l 0).length 0 []).length ≤ 1000; rw [List.length_nil] at h1; omega, fun x hx => ?_⟩
    have := clS_rows l k.toNat (rd_L1 l 0).length 0 [] (by simp) x hx
    omega
  · simp
theorem ClashesOf_spec (k : Int) (l : List (List Int)) (hx : ∀ x ∈ l, x.length ≤ 1048576) : Ev (fun q => spec_ClashesOf.f q k l) (clashR k l) := by
  unfold spec_ClashesOf.f clashR
  refine ev_bind (l08Are_ev k l hx) ?_
  cases h : isChan k l with
  | false => exact ev_neg (by simp) (ev_now _)
  | true =>
    rw [if_pos rfl]
    exact ev_pos rfl (ev_bind (l08Clashes_ev k l (isChan_chan h)) (ev_now _))
theorem ClashesOf_impl (k : Int) (l : List (List Int)) : Ev (fun q => impl_ClashesOf.f q k l) (clashR k l) := by
  unfold impl_ClashesOf.f clashR
  refine ev_fix (areChannels_f k l) ?_
  cases h : isChan k l with
  | false => exact ev_neg (by simp) (ev_now _)
  | true =>
    rw [if_pos rfl]
    exact ev_pos rfl (ev_bind (clashes_ev k l (isChan_chan h)) (ev_now _))
theorem FnExactClashesOf : laws_FnExactClashesOf.Pure := by
  intro k l _ hl
  refine ev_rounds (g := fun q => laws_FnExactClashesOf.f q k l) ?_
  unfold laws_FnExactClashesOf.f
  obtain ⟨r, hr, h⟩ := szInt64SS_ev l hl 1048576 (by omega)
  refine ev_bind hr ?_
  rcases h with h | ⟨h0, _, h1, h2⟩
  · exact ev_pos h (ev_now _)
  · obtain ⟨s1, s2⟩ := clashR_small k l
    obtain ⟨m1, x1, hm1, p1, _⟩ := marked_ev l h1 h2
    obtain ⟨m2, x2, hm2, p2, hh⟩ := marked_ev (clashR k l).1 (by omega) (fun x hx => by have := s2 x hx; omega)
    refine ev_neg (by omega) (ev_bind (toInt64SS_ev l h1 h2) (ev_pos rfl (ev_bind (ClashesOf_spec k l h2) (ev_bind (ClashesOf_impl k l) (ev_pos rfl ?_)))))
    refine ev_bind (eqInt64SS_ev _ (by omega) (fun x hx => by have := s2 x hx; omega)) (ev_pos rfl (ev_bind (eqInt64SS_ev l h1 h2) (ev_pos rfl ?_)))
    exact ev_bind hm1 (ev_pos p1 (ev_bind hm2 (ev_bind hh (ev_pos ⟨p2, rfl⟩ (ev_now _)))))
end Go.Proofs.Ythcccgeeccjfiaa.Pure
end
section
namespace Go.Proofs.Ythcccgeeccjfiaa.fnExactClashesOf
open Go.ChangeShapes Go.WideShapes Go.ChangeAt Go.RowKit Go.Deep Go.Proofs.Ythcccgeeccjfiaa.P
open Go.ChangeMaps (open_string shut_string)
set_option linter.unusedVariables false
theorem own : ownKnob Try.prog.godebug = none := by kernel_rfl
theorem laidOut : laidOutB Try.prog = true := by kernel_rfl
set_option maxRecDepth 100000 in
theorem lifted (os : Os) (started : os.Started) (H : Type) (enc : TypeId × Value → H) :
    ReturnsInHanded {} Try.checked os 12 .any (Rows.fnExactClashesOfSpec.pre6 enc Try.prog Try.f12 Rows.fnExactClashesOfRow.domain false) (Rows.fnExactClashesOfSpec.post enc Try.prog Try.f12 false true false false) := by
  refine returnsInHanded_of_change_sized (C := Try.checked) own started (by kernel_rfl) Try.func12
    (ChangeSpec.witness6 (enc := enc) (C := Try.checked) false ⟨#[], #[.int .i64 0, .slice none 0 0], []⟩ 8 (by kernel_rfl) (by kernel_rfl) (by kernel_rfl) (by kernel_rfl)) ?_
  intro W base args ds gs before hval0 hW hcnd hsz0 _
  have hsz : (DataW.weightsEach Try.prog (Try.f12.params.toList ++ Rows.fnExactClashesOfSpec.plain.varTypes Try.prog) (ds ++ gs)).all (· ≤ reachBytes) = true := hsz0
  have hval : ∀ (j : Nat) t v, Try.f12.params[j]? = some t → args[j]? = some v → Value.okWide Try.prog W .any base t v := hval0
  have hW' := hW
  obtain ⟨p, q, hA0, hV, rfl, hfz, hnd⟩ := hW
  have hA : DataW.TrodAll enc Try.prog W 0 (fun _ => true) true Try.f12.params.toList args.toList ds p := hA0
  rw [Try.params12] at hA hval hsz
  obtain ⟨v0, vs0, d0, ds0, p0, q0, hargs, rfl, rfl, h0, r0⟩ := trodAll_cons hA
  obtain ⟨v1, vs1, d1, ds1, p1, q1, rfl, rfl, rfl, h1, r1⟩ := trodAll_cons r0
  obtain ⟨rfl, rfl, rfl⟩ := trodAll_nil r1
  obtain rfl : args = #[v0, v1] := by cases args; simp_all
  obtain ⟨rfl, rfl⟩ := trodVars_none hV
  obtain ⟨a0, rfl, rfl, rfl, w0⟩ := open_int Try.underlying2 (hval 0 2 v0 rfl rfl) h0
  have k1 := h1
  have lt1 : ∀ x ∈ p1, x.block < W.heap.size := by obtain ⟨m, hm⟩ := k1; exact DataW.trod_lt m _ _ _ hm
  obtain ⟨l1, A1, c1, rfl, hc1, hr1, w1⟩ := open_row (opens_slice (opens_int Try.underlying2) Try.underlying22 (by kernel_rfl) rfl) Try.underlying52 (by kernel_rfl) rfl (hval 1 52 v1 rfl rfl) h1
  clear hA0 hval0 hsz0 hsz
  refine (P.laws_FnExactClashesOf.walk Pure.FnExactClashesOf a0 A1 c1 l1 W hr1 hc1 w0 w1).mono fun e W' ⟨he, bel⟩ => ?_
  subst he
  exact ⟨_, rfl, _, _, _, [], _, [], hW', trodAll_mk1 (shut_bool Try.underlying4 _), (trodAll_cons_mk (shut_int Try.underlying2 w0) (trodAll_cons_mk (Below.trod laidOut (by kernel_rfl) (of_decide_eq_true (by kernel_rfl)) k1 bel lt1) trodAll_mk0)), rfl, bel.frame _, fun h => by cases h⟩
theorem over : Rows.fnExactClashesOfRow.holds Try.pinned (OpenSpec.ofChange Rows.fnExactClashesOfSpec) :=
  OpenClaim.holds_of_wide 12 Try.f12 rfl rfl rfl rfl rfl rfl rfl ⟨rfl, rfl, rfl, rfl, rfl⟩ rfl rfl rfl rfl rfl (by kernel_rfl) Try.func12 (by kernel_rfl)
    (of_decide_eq_true (by kernel_rfl)) (by unfold Func.isWrapper; first | (rw [if_pos (by decide +kernel)]; kernel_rfl) | (rw [if_neg (by decide +kernel)]; exact ⟨rfl, rfl⟩))
    (fun os started H enc _ => lifted os started H enc)
theorem proved : Rows.FnExactClashesOfSaid := over
end Go.Proofs.Ythcccgeeccjfiaa.fnExactClashesOf
namespace Go.Proofs.Ythcccgeeccjfiaa
/-- The row, under a short name, for the claim. -/
theorem fnExactClashesOf_holds : Rows.FnExactClashesOfSaid := fnExactClashesOf.proved
end Go.Proofs.Ythcccgeeccjfiaa
end
