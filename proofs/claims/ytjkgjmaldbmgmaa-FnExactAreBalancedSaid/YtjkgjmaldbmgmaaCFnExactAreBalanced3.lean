/- The program's AreBalanced returns what the reference's returns, for all turns; no condition beside. -/
import Derived.Test.YtjkgjmaldbmgmaaCFnExactAreBalanced2
import Derived.Test.YtjkgjmaldbmgmaaRows
section
namespace Go.Proofs.Ytjkgjmaldbmgmaa.P
open Go.RowKit Go.Proofs.YtjkgjmaldbmgmaaW.PrintWords Go.Proofs.YtjkgjmaldbmgmaaW.PrintLast Go.Proofs.YtjkgjmaldbmgmaaW.PrintMore
attribute [local go_sem] max2_int min2_int max_two min_two max_three min_three max_four min_four   -- for this text's walks alone
set_option linter.unusedVariables false
set_option linter.unusedSimpArgs false
set_option maxHeartbeats 8000000 in
set_option maxRecDepth 100000 in
theorem slices_Concat_Sint64_int64.calls (k : Nat) (A0 : Option Addr) (c0 : Nat) (l0 : List (List Int)) (r : List Int) (w : World) (hr0 : Kd.C (Kd.slice 2 (Kd.int .i64)) w A0 l0.length l0) (hc0 : l0.length ≤ c0) (h : slices_Concat_Sint64_int64.f k l0 = some r) :
    Calls Try.prog 122 #[.slice A0 l0.length c0] w fun e w' => ∃ v0_ : Value, e = .returned (v0_) ∧ Kd.R (Kd.int .i64) 2 w' w.heap.size (fun _ => True) v0_ r ∧ Below w.heap.size w w' := by
  have HR0 := Aside0.mk hr0
  have HC0 := Aside0.mk hc0
  clear hr0 hc0
  have HB := Aside0.mk (Below.refl w.heap.size w)
  have H : (slices_Concat_Sint64_int64.l0 k l0 0 l0 (l0.length : Int) 0) = some r := h
  clear h
  have H' := Aside0.mk H
  clear H
  go_enter Try.func122, Try.ntmps122
  go_wp2
  go_loopg [3, 11] k (fun kq v3 v11 w' => ∃ (x3_1 : Int) (x11_1 : Int), v3 = .int .i64 x3_1 ∧ v11 = .int .i64 x11_1 ∧ Aside0 (slices_Concat_Sint64_int64.l0 kq l0 x3_1 l0 (l0.length : Int) x11_1 = some r) ∧ Aside0 (kq ≤ k) ∧ Aside0 (Below w.heap.size w w'))
  case atStart => exact ⟨(0), (0), (by first | rfl | (simp; done) | (simp [*]; done)), (by first | rfl | (simp; done) | (simp [*]; done)), H', ⟨Nat.le_refl _⟩, ⟨by repeat (first | (with_reducible first | exact HB.out | apply below_alloc | apply pw_below_drewN | apply below_drew1) | exact HB.out)⟩⟩
  case round =>
    clear H'
    try clear c1
    obtain ⟨x3_1, x11_1, rfl, rfl, HA, HK1, HB⟩ := hrel
    cases gk with
    | zero => exact absurd HA.out (by simp [slices_Concat_Sint64_int64.l0])
    | succ k1 =>
      have H := HA.out
      clear HA
      simp only [slices_Concat_Sint64_int64.l0] at H
      by_cases c2 : x11_1 < (l0.length : Int)
      · rw [if_pos c2] at H
        have c2b0 : decide (x11_1 < (l0.length : Int)) = true := decide_eq_true c2
        clear c2
        by_cases c3 : 0 ≤ x11_1
        · rw [if_pos c3] at H
          have c3b0 : decide (0 ≤ x11_1) = true := decide_eq_true c3
          clear c3
          by_cases c4 : x11_1 < (l0.length : Int)
          · rw [if_pos c4] at H
            have c4b0 : decide (x11_1 < (l0.length : Int)) = true := decide_eq_true c4
            clear c4
            by_cases c5 : (wrap64 (x3_1 + ((rd_L1 l0 x11_1).length : Int))) < 0
            · rw [if_pos c5] at H
              exact absurd H (by simp)
            · rw [if_neg c5] at H
              have c5b0 : decide ((wrap64 (x3_1 + ((rd_L1 l0 x11_1).length : Int))) < 0) = false := decide_eq_false c5
              clear c5
              have H' := Aside0.mk H
              clear H
              have p101 : 0 ≤ (x11_1 : Int) := of_decide_eq_true (by first | (with_reducible assumption) | assumption)
              have q101 : x11_1 < (l0.length : Int) := of_decide_eq_true (by first | (with_reducible assumption) | assumption)
              obtain ⟨ad101, A101_0, c101_0, e101, hx101_0, hl101_0, hi101_0⟩ := at_L1 HR0.out x11_1 p101 q101
              cases e101
              replace hx101_0 := (HB.out.cell (World.block_lt_of_cell? w _ hx101_0)).trans hx101_0
              have HR101_0 := Aside0.mk hi101_0
              have HC101_0 := Aside0.mk hl101_0
              clear hi101_0 hl101_0
              replace p101 := eq_true p101
              replace q101 := eq_true q101
              go_wp2
              go_roundg k1
              case measure => have := HK1.out; omega
              case rel => exact ⟨(wrap64 (x3_1 + ((rd_L1 l0 x11_1).length : Int))), (wrap64 (x11_1 + 1)), (by first | rfl | (simp; done) | (simp [*]; done)), (by first | rfl | (simp; done) | (simp [*]; done)), H', ⟨by have := HK1.out; omega⟩, ⟨by repeat (first | (with_reducible first | exact HB.out | apply below_alloc | apply pw_below_drewN | apply below_drew1) | exact HB.out)⟩⟩
          · rw [if_neg c4] at H
            exact absurd H (by simp)
        · rw [if_neg c3] at H
          exact absurd H (by simp)
      · rw [if_neg c2] at H
        have c2b0 : decide (x11_1 < (l0.length : Int)) = false := decide_eq_false c2
        clear c2
        replace H := Option.bind_eq_some_iff.mp H
        obtain ⟨t102, A60, H⟩ := H
        replace H : (slices_Concat_Sint64_int64.l1 k1 t102 l0 (l0.length : Int) 0) = some r := H
        have A6 := Aside0.mk A60
        clear A60
        have H' := Aside0.mk H
        clear H
        go_wp2_with (first | ((with_reducible refine gate_callee (f := 157) rfl ?_); refine goesL_ (some 24) rfl rfl Try.func157 (by kernel_rfl) rfl #[.slice none 0 0, .int .i64 x3_1] rfl (by (try simp only [List.map_toArray, List.map_cons, List.map_nil]); first | done | rfl | (simp only [List.length_drop, List.length_take]; rfl)) ?_; (refine (slices_Grow_Sint64_int64.calls _ _ ([] : List Int) x3_1 t102 _ ?side1 ?side2 A6.out).mono ?_); (case side1 => exact Kd.C_nil _ _); (case side2 => exact Nat.le_refl _); rintro e w7 ⟨v103, rfl, ho0, hb⟩; refine ⟨_, rfl, ?_⟩; have n0_ := Aside0.mk (Kd.R_lower ho0 (below_size (by repeat (first | (with_reducible first | exact HB.out | apply below_alloc | apply pw_below_drewN | apply below_drew1) | exact HB.out)))); have n1_ := Aside0.mk (below_step (by repeat (first | (with_reducible first | exact HB.out | apply below_alloc | apply pw_below_drewN | apply below_drew1) | exact HB.out)) hb); clear HB; have HO104 := n0_; have HB := n1_; clear n0_ n1_; (try clear hb); (try clear hb2); (try clear hk); (try clear hi); (try clear ho0)))
        go_loopg [6, 27] k1 (fun kq v6 v27 w' => ∃ (x6_2 : List Int) (x27_2 : Int), v27 = .int .i64 x27_2 ∧ Aside0 (slices_Concat_Sint64_int64.l1 kq x6_2 l0 (l0.length : Int) x27_2 = some r) ∧ Aside0 (kq ≤ k1) ∧ Aside0 (Kd.R (Kd.int .i64) 2 w' w.heap.size (fun _ => True) v6 x6_2) ∧ Aside0 (Below w.heap.size w w'))
        case atStart => exact ⟨(t102), (0), (by first | rfl | (simp; done) | (simp [*]; done)), H', ⟨Nat.le_refl _⟩, ⟨by (with_reducible repeat (first | apply Kd.R_alloc | apply Kd.R_drewN | apply Kd.R_drew)); exact HO104.out⟩, ⟨by repeat (first | (with_reducible first | exact HB.out | apply below_alloc | apply pw_below_drewN | apply below_drew1) | exact HB.out)⟩⟩
        case round =>
          clear H'
          try clear c1
          try clear p1
          try clear q1
          try clear hx1
          try clear c2
          try clear c2b0
          try clear p2
          try clear c3
          try clear c3b0
          try clear c4
          try clear c4b0
          try clear c5
          try clear c5b0
          try clear p6
          try clear hx101_0
          try clear p101
          try clear q101
          obtain ⟨x6_2, x27_2, rfl, HA, HK2, HO_6, HB⟩ := hrel
          cases gk with
          | zero => exact absurd HA.out (by simp [slices_Concat_Sint64_int64.l1])
          | succ k2 =>
            have H := HA.out
            clear HA
            simp only [slices_Concat_Sint64_int64.l1] at H
            by_cases c8 : x27_2 < (l0.length : Int)
            · rw [if_pos c8] at H
              have c8b0 : decide (x27_2 < (l0.length : Int)) = true := decide_eq_true c8
              clear c8
              by_cases c9 : 0 ≤ x27_2
              · rw [if_pos c9] at H
                have c9b0 : decide (0 ≤ x27_2) = true := decide_eq_true c9
                clear c9
                by_cases c10 : x27_2 < (l0.length : Int)
                · rw [if_pos c10] at H
                  have c10b0 : decide (x27_2 < (l0.length : Int)) = true := decide_eq_true c10
                  clear c10
                  by_cases c11 : x6_2.length + (rd_L1 l0 x27_2).length < 17592186044416
                  · rw [if_pos c11] at H
                    have LMc11 := Aside0.mk c11
                    clear c11
                    obtain ⟨y106, hy106⟩ : ∃ y_ : List Int, y_ = (x6_2 ++ (rd_L1 l0 x27_2)) := ⟨_, rfl⟩
                    replace H : (slices_Concat_Sint64_int64.l1 k2 y106 l0 (l0.length : Int) (wrap64 (x27_2 + 1))) = some r := by first | (rw [hy106]; with_reducible exact H) | (have H2_ := (Option.bind_some _ _).symm.trans H; rw [hy106]; with_reducible exact H2_) | (have H2_ := (Option.bind_some _ _).symm.trans H; with_reducible exact H2_) | with_reducible exact H | (rw [hy106]; exact H) | exact H
                    have Ny106 := Aside0.mk hy106
                    clear hy106
                    have H' := Aside0.mk H
                    clear H
                    have p105 : 0 ≤ (x27_2 : Int) := of_decide_eq_true (by first | (with_reducible assumption) | assumption)
                    have q105 : x27_2 < (l0.length : Int) := of_decide_eq_true (by first | (with_reducible assumption) | assumption)
                    obtain ⟨ad105, A105_0, c105_0, e105, hx105_0, hl105_0, hi105_0⟩ := at_L1 HR0.out x27_2 p105 q105
                    cases e105
                    replace hx105_0 := (HB.out.cell (World.block_lt_of_cell? w _ hx105_0)).trans hx105_0
                    have HR105_0 := Aside0.mk hi105_0
                    have HC105_0 := Aside0.mk hl105_0
                    clear hi105_0 hl105_0
                    replace p105 := eq_true p105
                    replace q105 := eq_true q105
                    go_wp2_with (first | ((with_reducible refine gate_builtin (b := .append) (xs := #[.tmp 31, .tmp 32]) rfl ?_); at_builtin; refine Kd.R_append_rows (Kd.int .i64) (w0 := w) w.heap.size rfl (.tmp 31) (.tmp 32) 22 2 (.int .i64 0) 8 rfl Try.underlying22 info2 rfl (by decide) (by omega) u6 x6_2 (rd_L1 l0 x27_2) _ _ _ (fun _ => True) (fun _ => False) rfl rfl ?aO ?aR (fun _ _ h => h) (fun _ h => h.elim) ?aF ?aB ?aS ?aL ?_; (case aR => repeat (first | exact (Kd.C_below HR105_0.out HB.out) | (with_reducible refine Kd.C_alloc ?_ _) | (with_reducible refine Kd.C_drewN ?_ _) | (with_reducible refine Kd.C_drew ?_))); (case aB => exact (by repeat (first | (with_reducible first | exact HB.out | apply below_alloc | apply pw_below_drewN | apply below_drew1) | exact HB.out))); (case aF => exact (fun _ _ => trivial)); (case aO => exact (by (with_reducible repeat (first | apply Kd.R_alloc | apply Kd.R_drewN | apply Kd.R_drew)); exact HO_6.out)); (case aS => exact (below_size (by repeat (first | (with_reducible first | exact HB.out | apply below_alloc | apply pw_below_drewN | apply below_drew1) | exact HB.out)))); (case aL => have := LMc11.out; omega); intro v107 w12 ho hb hg hat; rw [← Ny106.out] at ho; have n0_ := Aside0.mk (hb); have n1_ := Aside0.mk (ho); clear HB; clear HO_6; have HB := n0_; have HO108 := n1_; clear n0_ n1_; clear ho hb hg hat))
                    go_roundg k2
                    case measure => have := HK1.out; have := HK2.out; omega
                    case rel => exact ⟨(y106), (wrap64 (x27_2 + 1)), (by first | rfl | (simp; done) | (simp [*]; done)), H', ⟨by have := HK1.out; have := HK2.out; omega⟩, ⟨by (with_reducible repeat (first | apply Kd.R_alloc | apply Kd.R_drewN | apply Kd.R_drew)); exact HO108.out⟩, ⟨by repeat (first | (with_reducible first | exact HB.out | apply below_alloc | apply pw_below_drewN | apply below_drew1) | exact HB.out)⟩⟩
                  · rw [if_neg c11] at H
                    exact absurd H (by simp)
                · rw [if_neg c10] at H
                  exact absurd H (by simp)
              · rw [if_neg c9] at H
                exact absurd H (by simp)
            · rw [if_neg c8] at H
              have c8b0 : decide (x27_2 < (l0.length : Int)) = false := decide_eq_false c8
              clear c8
              obtain rfl := Option.some.inj H
              go_wp2
              go_ret
              exact ⟨_, by first | rfl | (simp [errW_none, errW_some] <;> rfl) | (simp [*, errW_none, errW_some] <;> rfl), by (with_reducible repeat (first | apply Kd.R_alloc | apply Kd.R_drewN | apply Kd.R_drew)); exact HO_6.out, by repeat (first | (with_reducible first | exact HB.out | apply below_alloc | apply pw_below_drewN | apply below_drew1) | exact HB.out)⟩
end Go.Proofs.Ytjkgjmaldbmgmaa.P
end
section
namespace Go.Proofs.Ytjkgjmaldbmgmaa.P
open Go.RowKit Go.Proofs.YtjkgjmaldbmgmaaW.PrintWords Go.Proofs.YtjkgjmaldbmgmaaW.PrintLast Go.Proofs.YtjkgjmaldbmgmaaW.PrintMore
attribute [local go_sem] max2_int min2_int max_two min_two max_three min_three max_four min_four   -- for this text's walks alone
set_option linter.unusedVariables false
set_option linter.unusedSimpArgs false
mutual
def impl_isBalanced.l0 : Nat → Int → Int → List Int → Int → Option (Bool)
  | 0, _, _, _, _ => none
  | k + 1, x1, x5, x6, x7 => if x7 < x5 then (impl_isBalanced.l1 k x1 x5 x6 x7 x5 0 x5 0) else (some true)
def impl_isBalanced.l1 : Nat → Int → Int → List Int → Int → Int → Int → Int → Int → Option (Bool)
  | 0, _, _, _, _, _, _, _, _ => none
  | k + 1, x1, x5, x6, x7, x8, x9, x24, x25 => if x25 < x24 then (if 0 ≤ x25 then (if x25 ≤ (wrap64 (x25 + x7)) then (if (wrap64 (x25 + x7)) ≤ (x6.length : Int) then ((impl_share.f k ((x6.take ((wrap64 (x25 + x7)) : Int).toNat).drop (x25 : Int).toNat) x1).bind fun t113 => (impl_isBalanced.l1 k x1 x5 x6 x7 (mn x8 t113) (mx x9 t113) x24 (wrap64 (x25 + 1)))) else (none)) else (none)) else (none)) else (if (wrap64 (x9 - x8)) > 1 then (some false) else (impl_isBalanced.l0 k x1 x5 x6 (wrap64 (x7 + 1))))
end
def impl_isBalanced.f (k : Nat) (l0 : List Int) (a1 : Int) : Option (Bool) := (impl_length_int64.f l0).bind fun t101 => ((slices_Concat_Sint64_int64.f k (([l0, l0] : List (List Int)))).bind fun t105 => (impl_isBalanced.l0 k a1 t101 t105 1))
theorem impl_isBalanced.mono_l : ∀ k, (∀ y0 y1 y2 y3, LeO (impl_isBalanced.l0 k y0 y1 y2 y3) (impl_isBalanced.l0 (k + 1) y0 y1 y2 y3)) ∧ (∀ y0 y1 y2 y3 y4 y5 y6 y7, LeO (impl_isBalanced.l1 k y0 y1 y2 y3 y4 y5 y6 y7) (impl_isBalanced.l1 (k + 1) y0 y1 y2 y3 y4 y5 y6 y7))
  | 0 => ⟨fun _ _ _ _ r h => by simp [impl_isBalanced.l0] at h, fun _ _ _ _ _ _ _ _ r h => by simp [impl_isBalanced.l1] at h⟩
  | k + 1 => by
    obtain ⟨ih0, ih1⟩ := impl_isBalanced.mono_l k
    refine ⟨?_, ?_⟩
    · intro y0 y1 y2 y3
      unfold impl_isBalanced.l0
      repeat' first
      | (with_reducible exact ih0 _ _ _ _)
      | (with_reducible exact ih1 _ _ _ _ _ _ _ _)
      | (with_reducible exact impl_share.mono _ _ _)
      | (with_reducible exact slices_Concat_Sint64_int64.mono _ _)
      | (with_reducible exact LeO.refl _)
      | (with_reducible exact LeO.none _)
      | (with_reducible refine LeO.ite ?_ ?_)
      | (with_reducible refine LeO.bind ?_ (fun _ => ?_))
      | exact ih0 _ _ _ _
      | exact ih1 _ _ _ _ _ _ _ _
      | exact impl_share.mono _ _ _
      | exact slices_Concat_Sint64_int64.mono _ _
      | exact LeO.none _
      | refine LeO.ite ?_ ?_
      | refine LeO.bind ?_ (fun _ => ?_)
    · intro y0 y1 y2 y3 y4 y5 y6 y7
      unfold impl_isBalanced.l1
      repeat' first
      | (with_reducible exact ih0 _ _ _ _)
      | (with_reducible exact ih1 _ _ _ _ _ _ _ _)
      | (with_reducible exact impl_share.mono _ _ _)
      | (with_reducible exact slices_Concat_Sint64_int64.mono _ _)
      | (with_reducible exact LeO.refl _)
      | (with_reducible exact LeO.none _)
      | (with_reducible refine LeO.ite ?_ ?_)
      | (with_reducible refine LeO.bind ?_ (fun _ => ?_))
      | exact ih0 _ _ _ _
      | exact ih1 _ _ _ _ _ _ _ _
      | exact impl_share.mono _ _ _
      | exact slices_Concat_Sint64_int64.mono _ _
      | exact LeO.none _
      | refine LeO.ite ?_ ?_
      | refine LeO.bind ?_ (fun _ => ?_)
theorem impl_isBalanced.mono : ∀ a0 a1 k, LeO (impl_isBalanced.f k a0 a1) (impl_isBalanced.f (k + 1) a0 a1) := by
  intro a0 a1 k
  obtain ⟨ih0, ih1⟩ := impl_isBalanced.mono_l k
  unfold impl_isBalanced.f
  repeat' first
      | (with_reducible exact ih0 _ _ _ _)
      | (with_reducible exact ih1 _ _ _ _ _ _ _ _)
      | (with_reducible exact impl_share.mono _ _ _)
      | (with_reducible exact slices_Concat_Sint64_int64.mono _ _)
      | (with_reducible exact LeO.refl _)
      | (with_reducible exact LeO.none _)
      | (with_reducible refine LeO.ite ?_ ?_)
      | (with_reducible refine LeO.bind ?_ (fun _ => ?_))
      | exact ih0 _ _ _ _
      | exact ih1 _ _ _ _ _ _ _ _
      | exact impl_share.mono _ _ _
      | exact slices_Concat_Sint64_int64.mono _ _
      | exact LeO.none _
      | refine LeO.ite ?_ ?_
      | refine LeO.bind ?_ (fun _ => ?_)
set_option maxHeartbeats 8000000 in
set_option maxRecDepth 100000 in
theorem impl_isBalanced.calls (k : Nat) (P0_ : Nat → Prop) (A0 : Option Addr) (c0 : Nat) (l0 : List Int) (a1 : Int) (r : Bool) (w : World) (hs0 : Kd.V (Kd.int .i64) 2 w w.heap.size (fun k_ => P0_ k_) (.slice A0 l0.length c0) l0) (h : impl_isBalanced.f k l0 a1 = some r) :
    Calls Try.prog 62 #[.slice A0 l0.length c0, .int .i64 a1] w fun e w' => e = .returned (.bool r) ∧ Below w.heap.size w w' := by
  have HO0 := Aside0.mk (show Kd.V (Kd.int .i64) 2 w w.heap.size (fun k_ => (P0_ k_ ∨ w.heap.size ≤ k_)) (.slice A0 l0.length c0) l0 from Kd.V_mono hs0 (fun k_ hk => .inl hk))
  have HB := Aside0.mk (Below.refl w.heap.size w)
  have H : ((impl_length_int64.f l0).bind fun t101 => ((slices_Concat_Sint64_int64.f k (([l0, l0] : List (List Int)))).bind fun t105 => (impl_isBalanced.l0 k a1 t101 t105 1))) = some r := h
  clear h
  replace H := Option.bind_eq_some_iff.mp H
  obtain ⟨t101, A30, H⟩ := H
  replace H : ((slices_Concat_Sint64_int64.f k (([l0, l0] : List (List Int)))).bind fun t105 => (impl_isBalanced.l0 k a1 t101 t105 1)) = some r := H
  have A3 := Aside0.mk A30
  clear A30
  obtain ⟨y102, hy102⟩ : ∃ y_ : List (List Int), y_ = (([l0, l0] : List (List Int))) := ⟨_, rfl⟩
  replace H : ((slices_Concat_Sint64_int64.f k y102).bind fun t105 => (impl_isBalanced.l0 k a1 t101 t105 1)) = some r := by first | (rw [hy102]; with_reducible exact H) | (have H2_ := (Option.bind_some _ _).symm.trans H; rw [hy102]; with_reducible exact H2_) | (have H2_ := (Option.bind_some _ _).symm.trans H; with_reducible exact H2_) | with_reducible exact H | (rw [hy102]; exact H) | exact H
  have Ny102 := Aside0.mk hy102
  clear hy102
  replace H := Option.bind_eq_some_iff.mp H
  obtain ⟨t105, A40, H⟩ := H
  replace H : (impl_isBalanced.l0 k a1 t101 t105 1) = some r := H
  have A4 := Aside0.mk A40
  clear A40
  have H' := Aside0.mk H
  clear H
  go_enter Try.func62, Try.ntmps62
  go_wp2_with (first | ((with_reducible refine gate_callee (f := 70) rfl ?_); refine goesL_ (some 13) rfl rfl Try.func70 (by kernel_rfl) rfl #[.slice A0 l0.length c0] rfl (by (try simp only [List.map_toArray, List.map_cons, List.map_nil]); first | done | rfl | (simp only [List.length_drop, List.length_take]; rfl)) ?_; (with_reducible refine (impl_length_int64.calls _ _ l0 t101 _ ?side1 ?side2 A3.out).mono ?_); (case side1 => repeat (first | exact (Kd.V_reads' HO0.out).2.2 | (with_reducible refine Kd.C_alloc ?_ _) | (with_reducible refine Kd.C_drewN ?_ _) | (with_reducible refine Kd.C_drew ?_))); (case side2 => exact (Kd.V_reads' HO0.out).2.1); rintro e w' ⟨rfl, ⟨nd, rfl⟩⟩; refine ⟨_, rfl, ?_⟩) | ((with_reducible refine gate_dst (N := 16) rfl ?_); refine Kd.N_lit (Kd.slice 2 (Kd.int .i64)) _ 22 ?hg (N' := 16) ?hd (xs := ([l0, l0] : List (List Int))) (inner := [.slice A0 l0.length c0, .slice A0 l0.length c0]) (ok := (fun k_ => (P0_ k_ ∨ w.heap.size ≤ k_))) (okp := (fun k_ => (P0_ k_ ∨ w.heap.size ≤ k_))) ?hr ?hp (fun _ hk => hk) ((show ∀ k_, w.heap.size ≤ k_ → (fun k_ => (P0_ k_ ∨ w.heap.size ≤ k_)) k_ from fun k_ hk => (.inr (Nat.le_trans (below_size (by repeat (first | (with_reducible first | exact HB.out | apply below_alloc | apply pw_below_drewN | apply below_drew1) | exact HB.out))) hk))) _ (Nat.le_refl _)) (Below.refl _ _) (Nat.le_refl _) (by simp) ?_; (case hd => rfl); (case hg => rfl); (case hr => first | (go_simp; done) | (go_simp; rfl)); (case hp => exact (Reps.one (show Kd.FK (Kd.slice 2 (Kd.int .i64)) _ _ l0 [.slice A0 l0.length c0] from (Kd.FK_slice_mk (Kd.V_reads' (Kd.V_mono (ok' := (fun k_ => (P0_ k_ ∨ w.heap.size ≤ k_))) (Kd.V_drewN HO0.out nd) (fun k_ hk => hk))).2.1 (Kd.V_F (Kd.V_mono (ok' := (fun k_ => (P0_ k_ ∨ w.heap.size ≤ k_))) (Kd.V_drewN HO0.out nd) (fun k_ hk => hk))))) (Reps.one (show Kd.FK (Kd.slice 2 (Kd.int .i64)) _ _ l0 [.slice A0 l0.length c0] from (Kd.FK_slice_mk (Kd.V_reads' (Kd.V_mono (ok' := (fun k_ => (P0_ k_ ∨ w.heap.size ≤ k_))) (Kd.V_drewN HO0.out nd) (fun k_ hk => hk))).2.1 (Kd.V_F (Kd.V_mono (ok' := (fun k_ => (P0_ k_ ∨ w.heap.size ≤ k_))) (Kd.V_drewN HO0.out nd) (fun k_ hk => hk))))) (Reps.none _ _)))); intro v103 w5 ho6 hb hg_ hnew_; clear hg_ hnew_; (first | rw [← Ny102.out] at ho6 | (simp only [Int.reduceToNat] at ho6; rw [← Ny102.out] at ho6)); have n0_ := Aside0.mk (Kd.V_elder' (by (with_reducible repeat (first | apply Kd.V_alloc | apply Kd.V_drewN | apply Kd.V_drew)); exact HO0.out) (Kd.N_base ho6) hb); have n1_ := Aside0.mk (Kd.N_lower ho6 (below_size (by repeat (first | (with_reducible first | exact HB.out | apply below_alloc | apply pw_below_drewN | apply below_drew1) | exact HB.out)))); have n2_ := Aside0.mk (below_step (by repeat (first | (with_reducible first | exact HB.out | apply below_alloc | apply pw_below_drewN | apply below_drew1) | exact HB.out)) hb); clear HO0; clear HB; have HO0 := n0_; have HO104 := n1_; have HB := n2_; clear n0_ n1_ n2_; clear hb ho6; obtain ⟨Ao7, co7, eo7⟩ := Kd.N_slice HO104.out; subst eo7) | ((with_reducible refine gate_callee (f := 122) rfl ?_); refine goesL_ (some 17) rfl rfl Try.func122 (by kernel_rfl) rfl #[.slice Ao7 y102.length co7] rfl (by (try simp only [List.map_toArray, List.map_cons, List.map_nil]); first | done | rfl | (simp only [List.length_drop, List.length_take]; rfl)) ?_; (with_reducible refine (slices_Concat_Sint64_int64.calls k _ _ y102 t105 _ ?side1 ?side2 A4.out).mono ?_); (case side1 => repeat (first | exact (Kd.N_reads' HO104.out).2.2 | (with_reducible refine Kd.C_alloc ?_ _) | (with_reducible refine Kd.C_drewN ?_ _) | (with_reducible refine Kd.C_drew ?_))); (case side2 => exact (Kd.N_reads' HO104.out).2.1); rintro e w8 ⟨v106, rfl, ho0, hb⟩; refine ⟨_, rfl, ?_⟩; have n0_ := Aside0.mk (Kd.V_elder' (by (with_reducible repeat (first | apply Kd.V_alloc | apply Kd.V_drewN | apply Kd.V_drew)); exact HO0.out) (Kd.R_base ho0) hb); have n1_ := Aside0.mk (Kd.N_elder' (by (with_reducible repeat (first | apply Kd.N_alloc | apply Kd.N_drewN | apply Kd.N_drew)); exact HO104.out) (Kd.R_base ho0) hb); have n2_ := Aside0.mk (Kd.R_lower (Kd.R_newM (M := fun k_ => (w.heap.size ≤ k_)) ho0 (below_size (by repeat (first | (with_reducible first | exact HB.out | apply below_alloc | apply pw_below_drewN | apply below_drew1) | exact HB.out))) (fun k_ h_ => h_)) (below_size (by repeat (first | (with_reducible first | exact HB.out | apply below_alloc | apply pw_below_drewN | apply below_drew1) | exact HB.out)))); have n3_ := Aside0.mk (below_step (by repeat (first | (with_reducible first | exact HB.out | apply below_alloc | apply pw_below_drewN | apply below_drew1) | exact HB.out)) hb); clear HO0; clear HO104; clear HB; have HO0 := n0_; have HO104 := n1_; have HO107 := n2_; have HB := n3_; clear n0_ n1_ n2_ n3_; (try clear hb); (try clear hb2); (try clear hk); (try clear hi); (try clear ho0)))
  go_loopg [7] k (fun kq v7 w' => ∃ (x7_1 : Int), v7 = .int .i64 x7_1 ∧ Aside0 (impl_isBalanced.l0 kq a1 t101 t105 x7_1 = some r) ∧ Aside0 (kq ≤ k) ∧ Aside0 (Kd.R (Kd.int .i64) 2 w' w.heap.size (fun k_ => (w.heap.size ≤ k_)) v106 t105) ∧ Aside0 (Below w.heap.size w w'))
  case atStart => exact ⟨(1), (by first | rfl | (simp; done) | (simp [*]; done)), H', ⟨Nat.le_refl _⟩, ⟨by (with_reducible repeat (first | apply Kd.R_alloc | apply Kd.R_drewN | apply Kd.R_drew)); exact Kd.R_mono HO107.out (fun _ hk => hk.1)⟩, ⟨by repeat (first | (with_reducible first | exact HB.out | apply below_alloc | apply pw_below_drewN | apply below_drew1) | exact HB.out)⟩⟩
  case round =>
    clear H'
    try clear c1
    try clear p2
    try clear c6
    try clear c7
    obtain ⟨x7_1, rfl, HA, HK1, HO_6, HB⟩ := hrel
    cases gk with
    | zero => exact absurd HA.out (by simp [impl_isBalanced.l0])
    | succ k1 =>
      have H := HA.out
      clear HA
      simp only [impl_isBalanced.l0] at H
      by_cases c9 : x7_1 < t101
      · rw [if_pos c9] at H
        have c9b0 : decide (x7_1 < t101) = true := decide_eq_true c9
        clear c9
        have H' := Aside0.mk H
        clear H
        go_wp2
        go_loopg [8, 9, 25] k1 (fun kq v8 v9 v25 w' => ∃ (x8_2 : Int) (x9_2 : Int) (x25_2 : Int), v8 = .int .i64 x8_2 ∧ v9 = .int .i64 x9_2 ∧ v25 = .int .i64 x25_2 ∧ Aside0 (impl_isBalanced.l1 kq a1 t101 t105 x7_1 x8_2 x9_2 t101 x25_2 = some r) ∧ Aside0 (kq ≤ k1) ∧ Aside0 (Kd.R (Kd.int .i64) 2 w' w.heap.size (fun k_ => (w.heap.size ≤ k_)) v106 t105) ∧ Aside0 (Below w.heap.size w w'))
        case atStart => exact ⟨(t101), (0), (0), (by first | rfl | (simp; done) | (simp [*]; done)), (by first | rfl | (simp; done) | (simp [*]; done)), (by first | rfl | (simp; done) | (simp [*]; done)), H', ⟨Nat.le_refl _⟩, ⟨by (with_reducible repeat (first | apply Kd.R_alloc | apply Kd.R_drewN | apply Kd.R_drew)); exact HO_6.out⟩, ⟨by repeat (first | (with_reducible first | exact HB.out | apply below_alloc | apply pw_below_drewN | apply below_drew1) | exact HB.out)⟩⟩
        case round =>
          clear H'
          try clear c1
          try clear p2
          try clear c6
          try clear c7
          try clear c9
          try clear c9b0
          try clear p2
          obtain ⟨x8_2, x9_2, x25_2, rfl, rfl, rfl, HA, HK2, HO_6, HB⟩ := hrel
          cases gk with
          | zero => exact absurd HA.out (by simp [impl_isBalanced.l1])
          | succ k2 =>
            have H := HA.out
            clear HA
            simp only [impl_isBalanced.l1] at H
            by_cases c10 : x25_2 < t101
            · rw [if_pos c10] at H
              have c10b0 : decide (x25_2 < t101) = true := decide_eq_true c10
              clear c10
              by_cases c11 : 0 ≤ x25_2
              · rw [if_pos c11] at H
                have c11b0 := eq_true c11
                have c11b1 : decide (0 ≤ x25_2) = true := decide_eq_true c11
                clear c11
                by_cases c12 : x25_2 ≤ (wrap64 (x25_2 + x7_1))
                · rw [if_pos c12] at H
                  have c12b0 := eq_true c12
                  have c12b1 : decide (x25_2 ≤ (wrap64 (x25_2 + x7_1))) = true := decide_eq_true c12
                  by_cases c13 : (wrap64 (x25_2 + x7_1)) ≤ (t105.length : Int)
                  · rw [if_pos c13] at H
                    have c13b0 := eq_true c13
                    have c13b1 : decide ((wrap64 (x25_2 + x7_1)) ≤ (t105.length : Int)) = true := decide_eq_true c13
                    obtain ⟨y108, hy108⟩ : ∃ y_ : List Int, y_ = ((t105.take ((wrap64 (x25_2 + x7_1)) : Int).toNat).drop (x25_2 : Int).toNat) := ⟨_, rfl⟩
                    replace H : ((impl_share.f k2 y108 a1).bind fun t113 => (impl_isBalanced.l1 k2 a1 t101 t105 x7_1 (mn x8_2 t113) (mx x9_2 t113) t101 (wrap64 (x25_2 + 1)))) = some r := by first | (rw [hy108]; with_reducible exact H) | (have H2_ := (Option.bind_some _ _).symm.trans H; rw [hy108]; with_reducible exact H2_) | (have H2_ := (Option.bind_some _ _).symm.trans H; with_reducible exact H2_) | with_reducible exact H | (rw [hy108]; exact H) | exact H
                    have Ny108 := Aside0.mk hy108
                    clear hy108
                    replace H := Option.bind_eq_some_iff.mp H
                    obtain ⟨t113, A140, H⟩ := H
                    replace H : (impl_isBalanced.l1 k2 a1 t101 t105 x7_1 (mn x8_2 t113) (mx x9_2 t113) t101 (wrap64 (x25_2 + 1))) = some r := H
                    have A14 := Aside0.mk A140
                    clear A140
                    obtain ⟨ji15, hji15⟩ : ∃ j_ : Int, (mn x8_2 t113) = j_ := ⟨_, rfl⟩
                    replace H : (impl_isBalanced.l1 k2 a1 t101 t105 x7_1 ji15 (mx x9_2 t113) t101 (wrap64 (x25_2 + 1))) = some r := by first | (rw [hji15] at H; exact H) | (simp only [hji15] at H ⊢; exact H)
                    (try rw [hji15] at A14)
                    have hji15_ : (if t113 < x8_2 then t113 else x8_2) = ji15 := hji15
                    obtain ⟨ji16, hji16⟩ : ∃ j_ : Int, (mx x9_2 t113) = j_ := ⟨_, rfl⟩
                    replace H : (impl_isBalanced.l1 k2 a1 t101 t105 x7_1 ji15 ji16 t101 (wrap64 (x25_2 + 1))) = some r := by first | (rw [hji16] at H; exact H) | (simp only [hji16] at H ⊢; exact H)
                    (try rw [hji16] at A14)
                    have hji16_ : (if x9_2 < t113 then t113 else x9_2) = ji16 := hji16
                    have H' := Aside0.mk H
                    clear H
                    obtain ⟨Ao18, co18, eo18⟩ := Kd.R_slice HO_6.out
                    subst eo18
                    have q17 : ((wrap64 (x25_2 + x7_1)) : Int) ≤ ((t105.length : Int) : Int) := of_decide_eq_true (by first | (with_reducible assumption) | assumption)
                    obtain ⟨i017, hi017, _, hsz17, _⟩ := info_parts info2
                    have hroom17 : t105.length ≤ co18 := (Kd.R_reads' HO_6.out).2.1
                    have hC17 : Kd.F (Kd.int .i64) _ _ Ao18 t105.length t105 := (Kd.V_at (base := w.heap.size) (Kd.V_mono (ok' := (fun k_ => (P0_ k_ ∨ w.heap.size ≤ k_))) (Kd.R_V HO_6.out) (fun k_ hk => (.inr (hk))))).2.2
                    have ql17 : (x25_2 : Int) ≤ ((wrap64 (x25_2 + x7_1)) : Int) := of_decide_eq_true (by first | (with_reducible assumption) | assumption)
                    have q017 : (0 : Int) ≤ (x25_2 : Int) := of_decide_eq_true (by first | (with_reducible assumption) | assumption)
                    have hcut17 := cut_mid (P := Try.prog) 22 2 .i64 .i64 Try.underlying22 hi017 1 hsz17 Ao18 t105.length co18 x25_2 (wrap64 (x25_2 + x7_1)) q017 ql17 q17 hroom17
                    have hr17 := Kd.F_mid (lo := (x25_2 : Int).toNat) (hi := ((wrap64 (x25_2 + x7_1)) : Int).toNat) (c := co18) hC17 (by omega) (by omega) hroom17
                    obtain ⟨A17, hA17⟩ : ∃ A1, A1 = (if co18 = (x25_2 : Int).toNat then Ao18 else (Ao18 : Option Addr).map (·.add ((x25_2 : Int).toNat * 1))) := ⟨_, rfl⟩
                    obtain ⟨c17, hc17⟩ : ∃ c1, c1 = co18 - (x25_2 : Int).toNat := ⟨_, rfl⟩
                    have hy17 : y108.length = ((wrap64 (x25_2 + x7_1)) : Int).toNat - (x25_2 : Int).toNat := (by rw [Ny108.out, List.length_drop, List.length_take] <;> omega)
                    rw [show ((t105).take ((wrap64 (x25_2 + x7_1)) : Int).toNat).drop (x25_2 : Int).toNat = y108 from Ny108.out.symm] at hr17
                    replace hr17 : Kd.F (Kd.int .i64) _ _ A17 y108.length y108 := (by rw [hA17]; exact hr17)
                    rw [← hy17, ← hA17, ← hc17] at hcut17
                    have HO112 := Aside0.mk (show Kd.V (Kd.int .i64) 2 _ w.heap.size _ (.slice A17 y108.length c17) y108 from Kd.V_mk (by rw [hy17, hc17]; exact Nat.sub_le_sub_right (Nat.le_trans (by omega) hroom17) _) hr17)
                    have HC112 := Aside0.mk (show y108.length ≤ c17 from by rw [hy17, hc17]; exact Nat.sub_le_sub_right (Nat.le_trans (by omega) hroom17) _)
                    clear hr17 hC17 hroom17 hi017 hsz17 hc17
                    have KY17 := Aside0.mk hy17
                    have KA17 := Aside0.mk hA17
                    clear hy17 hA17
                    replace q17 := eq_true q17
                    go_wp2_with (first | ((with_reducible refine gate_callee (f := 123) rfl ?_); refine goesL_ (some 35) rfl rfl Try.func123 (by kernel_rfl) rfl #[.slice A17 y108.length c17, .int .i64 a1] rfl (by (try simp only [List.map_toArray, List.map_cons, List.map_nil]); first | done | rfl | (simp only [List.length_drop, List.length_take]; rfl)) ?_; (with_reducible refine (impl_share.calls k2 _ _ y108 a1 t113 _ ?side1 ?side2 A14.out).mono ?_); (case side1 => repeat (first | exact (Kd.V_reads' HO112.out).2.2 | (with_reducible refine Kd.C_alloc ?_ _) | (with_reducible refine Kd.C_drewN ?_ _) | (with_reducible refine Kd.C_drew ?_))); (case side2 => exact (Kd.V_reads' HO112.out).2.1); rintro e w' ⟨rfl, ⟨nd, rfl⟩⟩; refine ⟨_, rfl, ?_⟩))
                    go_roundg k2
                    case measure => have := HK1.out; have := HK2.out; omega
                    case rel => exact ⟨(ji15), (ji16), (wrap64 (x25_2 + 1)), (by first | rfl | (simp; done) | (simp only [← hji15] <;> (first | rfl | simp)) | (simp [*]; done)), (by first | rfl | (simp; done) | (simp only [← hji16] <;> (first | rfl | simp)) | (simp [*]; done)), (by first | rfl | (simp; done) | (simp [*]; done)), H', ⟨by have := HK1.out; have := HK2.out; omega⟩, ⟨by (with_reducible repeat (first | apply Kd.R_alloc | apply Kd.R_drewN | apply Kd.R_drew)); exact HO_6.out⟩, ⟨by repeat (first | (with_reducible first | exact HB.out | apply below_alloc | apply pw_below_drewN | apply below_drew1) | exact HB.out)⟩⟩
                  · rw [if_neg c13] at H
                    exact absurd H (by simp)
                · rw [if_neg c12] at H
                  exact absurd H (by simp)
              · rw [if_neg c11] at H
                exact absurd H (by simp)
            · rw [if_neg c10] at H
              have c10b0 : decide (x25_2 < t101) = false := decide_eq_false c10
              clear c10
              by_cases c19 : (wrap64 (x9_2 - x8_2)) > 1
              · rw [if_pos c19] at H
                have c19b0 : decide (1 < (wrap64 (x9_2 - x8_2))) = true := decide_eq_true c19
                clear c19
                obtain rfl := Option.some.inj H
                go_wp2
                go_ret
                exact ⟨by first | rfl | (simp [errW_none, errW_some] <;> rfl) | (simp [*, errW_none, errW_some] <;> rfl), by repeat (first | (with_reducible first | exact HB.out | apply below_alloc | apply pw_below_drewN | apply below_drew1) | exact HB.out)⟩
              · rw [if_neg c19] at H
                have c19b0 : decide (1 < (wrap64 (x9_2 - x8_2))) = false := decide_eq_false c19
                clear c19
                have H' := Aside0.mk H
                clear H
                go_wp2
                go_roundg k2
                case measure => have := HK1.out; have := HK2.out; omega
                case rel => exact ⟨(wrap64 (x7_1 + 1)), (by first | rfl | (simp; done) | (simp [*]; done)), H', ⟨by have := HK1.out; have := HK2.out; omega⟩, ⟨by (with_reducible repeat (first | apply Kd.R_alloc | apply Kd.R_drewN | apply Kd.R_drew)); exact HO_6.out⟩, ⟨by repeat (first | (with_reducible first | exact HB.out | apply below_alloc | apply pw_below_drewN | apply below_drew1) | exact HB.out)⟩⟩
      · rw [if_neg c9] at H
        have c9b0 : decide (x7_1 < t101) = false := decide_eq_false c9
        clear c9
        obtain rfl := Option.some.inj H
        go_wp2
        go_ret
        exact ⟨by first | rfl | (simp [errW_none, errW_some] <;> rfl) | (simp [*, errW_none, errW_some] <;> rfl), by repeat (first | (with_reducible first | exact HB.out | apply below_alloc | apply pw_below_drewN | apply below_drew1) | exact HB.out)⟩
end Go.Proofs.Ytjkgjmaldbmgmaa.P
end
section
namespace Go.Proofs.Ytjkgjmaldbmgmaa.P
open Go.RowKit Go.Proofs.YtjkgjmaldbmgmaaW.PrintWords Go.Proofs.YtjkgjmaldbmgmaaW.PrintLast Go.Proofs.YtjkgjmaldbmgmaaW.PrintMore
attribute [local go_sem] max2_int min2_int max_two min_two max_three min_three max_four min_four   -- for this text's walks alone
set_option linter.unusedVariables false
set_option linter.unusedSimpArgs false
def impl_AreBalanced.l0 : Nat → List Int → Int → Int → Option (Bool × Int)
  | 0, _, _, _ => none
  | k + 1, x0, x13, x14 => if x14 < x13 then ((impl_isBalanced.f k x0 x14).bind fun t103 => (if t103 = true then (impl_AreBalanced.l0 k x0 x13 (wrap64 (x14 + 1))) else (some (false, 0)))) else (some (true, 0))
def impl_AreBalanced.f (k : Nat) (l0 : List Int) : Option (Bool × Int) := (impl_levelCode.f k l0).bind fun t101 => (if t101 = 0 then ((slices_Max_Sint64_int64.f k l0).bind fun t102 => (impl_AreBalanced.l0 k l0 (wrap64 (t102 + 1)) 0)) else (some (false, t101)))
theorem impl_AreBalanced.mono_l : ∀ k, (∀ y0 y1 y2, LeO (impl_AreBalanced.l0 k y0 y1 y2) (impl_AreBalanced.l0 (k + 1) y0 y1 y2))
  | 0 => fun _ _ _ r h => by simp [impl_AreBalanced.l0] at h
  | k + 1 => by
    have ih0 := impl_AreBalanced.mono_l k
    · intro y0 y1 y2
      unfold impl_AreBalanced.l0
      repeat' first
      | (with_reducible exact ih0 _ _ _)
      | (with_reducible exact impl_isBalanced.mono _ _ _)
      | (with_reducible exact impl_levelCode.mono _ _)
      | (with_reducible exact slices_Max_Sint64_int64.mono _ _)
      | (with_reducible exact LeO.refl _)
      | (with_reducible exact LeO.none _)
      | (with_reducible refine LeO.ite ?_ ?_)
      | (with_reducible refine LeO.bind ?_ (fun _ => ?_))
      | exact ih0 _ _ _
      | exact impl_isBalanced.mono _ _ _
      | exact impl_levelCode.mono _ _
      | exact slices_Max_Sint64_int64.mono _ _
      | exact LeO.none _
      | refine LeO.ite ?_ ?_
      | refine LeO.bind ?_ (fun _ => ?_)
theorem impl_AreBalanced.mono : ∀ a0 k, LeO (impl_AreBalanced.f k a0) (impl_AreBalanced.f (k + 1) a0) := by
  intro a0 k
  have ih0 := impl_AreBalanced.mono_l k
  unfold impl_AreBalanced.f
  repeat' first
      | (with_reducible exact ih0 _ _ _)
      | (with_reducible exact impl_isBalanced.mono _ _ _)
      | (with_reducible exact impl_levelCode.mono _ _)
      | (with_reducible exact slices_Max_Sint64_int64.mono _ _)
      | (with_reducible exact LeO.refl _)
      | (with_reducible exact LeO.none _)
      | (with_reducible refine LeO.ite ?_ ?_)
      | (with_reducible refine LeO.bind ?_ (fun _ => ?_))
      | exact ih0 _ _ _
      | exact impl_isBalanced.mono _ _ _
      | exact impl_levelCode.mono _ _
      | exact slices_Max_Sint64_int64.mono _ _
      | exact LeO.none _
      | refine LeO.ite ?_ ?_
      | refine LeO.bind ?_ (fun _ => ?_)
set_option maxHeartbeats 8000000 in
set_option maxRecDepth 100000 in
theorem impl_AreBalanced.calls (k : Nat) (A0 : Option Addr) (c0 : Nat) (l0 : List Int) (r1 : Bool) (r2 : Int) (w : World) (hr0 : Kd.C (Kd.int .i64) w A0 l0.length l0) (hc0 : l0.length ≤ c0) (h : impl_AreBalanced.f k l0 = some (r1, r2)) :
    Calls Try.prog 17 #[.slice A0 l0.length c0] w fun e w' => e = .returned (.tuple #[.bool r1, .int .i64 r2]) ∧ Below w.heap.size w w' := by
  have HR0 := Aside0.mk hr0
  have HC0 := Aside0.mk hc0
  clear hr0 hc0
  have HB := Aside0.mk (Below.refl w.heap.size w)
  have H : ((impl_levelCode.f k l0).bind fun t101 => (if t101 = 0 then ((slices_Max_Sint64_int64.f k l0).bind fun t102 => (impl_AreBalanced.l0 k l0 (wrap64 (t102 + 1)) 0)) else (some (false, t101)))) = some (r1, r2) := h
  clear h
  replace H := Option.bind_eq_some_iff.mp H
  obtain ⟨t101, A20, H⟩ := H
  replace H : (if t101 = 0 then ((slices_Max_Sint64_int64.f k l0).bind fun t102 => (impl_AreBalanced.l0 k l0 (wrap64 (t102 + 1)) 0)) else (some (false, t101))) = some (r1, r2) := H
  have A2 := Aside0.mk A20
  clear A20
  by_cases c3 : t101 = 0
  · rw [if_pos c3] at H
    have c3b0 : (t101 == 0) = true := beq_iff_eq.mpr c3
    have c3b1 : (t101 != 0) = false := bne_eq_false_iff_eq.mpr c3
    clear c3
    replace H := Option.bind_eq_some_iff.mp H
    obtain ⟨t102, A40, H⟩ := H
    replace H : (impl_AreBalanced.l0 k l0 (wrap64 (t102 + 1)) 0) = some (r1, r2) := H
    have A4 := Aside0.mk A40
    clear A40
    have H' := Aside0.mk H
    clear H
    go_enter Try.func17, Try.ntmps17
    go_wp2_with (first | ((with_reducible refine gate_callee (f := 60) rfl ?_); refine goesL_ (some 7) rfl rfl Try.func60 (by kernel_rfl) rfl #[.slice A0 l0.length c0] rfl (by (try simp only [List.map_toArray, List.map_cons, List.map_nil]); first | done | rfl | (simp only [List.length_drop, List.length_take]; rfl)) ?_; (with_reducible refine (impl_levelCode.calls k _ _ l0 t101 _ ?side1 ?side2 A2.out).mono ?_); (case side1 => repeat (first | exact HR0.out | (with_reducible refine Kd.C_alloc ?_ _) | (with_reducible refine Kd.C_drewN ?_ _) | (with_reducible refine Kd.C_drew ?_))); (case side2 => exact HC0.out); rintro e w5 ⟨rfl, hb⟩; refine ⟨_, rfl, ?_⟩; have n0_ := Aside0.mk (below_step (by repeat (first | (with_reducible first | exact HB.out | apply below_alloc | apply pw_below_drewN | apply below_drew1) | exact HB.out)) hb); clear HB; have HB := n0_; clear n0_; (try clear hb); (try clear hb2); (try clear hk); (try clear hi)) | ((with_reducible refine gate_callee (f := 61) rfl ?_); refine goesL_ (some 12) rfl rfl Try.func61 (by kernel_rfl) rfl #[.slice A0 l0.length c0] rfl (by (try simp only [List.map_toArray, List.map_cons, List.map_nil]); first | done | rfl | (simp only [List.length_drop, List.length_take]; rfl)) ?_; (with_reducible refine (slices_Max_Sint64_int64.calls k _ _ l0 t102 _ ?side1 ?side2 A4.out).mono ?_); (case side1 => repeat (first | exact (Kd.C_below HR0.out HB.out) | (with_reducible refine Kd.C_alloc ?_ _) | (with_reducible refine Kd.C_drewN ?_ _) | (with_reducible refine Kd.C_drew ?_))); (case side2 => exact HC0.out); rintro e w6 ⟨rfl, hb⟩; refine ⟨_, rfl, ?_⟩; have n0_ := Aside0.mk (below_step (by repeat (first | (with_reducible first | exact HB.out | apply below_alloc | apply pw_below_drewN | apply below_drew1) | exact HB.out)) hb); clear HB; have HB := n0_; clear n0_; (try clear hb); (try clear hb2); (try clear hk); (try clear hi)))
    go_loopg [14] k (fun kq v14 w' => ∃ (x14_1 : Int), v14 = .int .i64 x14_1 ∧ Aside0 (impl_AreBalanced.l0 kq l0 (wrap64 (t102 + 1)) x14_1 = some (r1, r2)) ∧ Aside0 (kq ≤ k) ∧ Aside0 (Below w.heap.size w w'))
    case atStart => exact ⟨(0), (by first | rfl | (simp; done) | (simp [*]; done)), H', ⟨Nat.le_refl _⟩, ⟨by repeat (first | (with_reducible first | exact HB.out | apply below_alloc | apply pw_below_drewN | apply below_drew1) | exact HB.out)⟩⟩
    case round =>
      clear H'
      try clear c1
      try clear p2
      try clear c3
      try clear c3b0
      try clear c3b1
      try clear c6
      try clear p6
      obtain ⟨x14_1, rfl, HA, HK1, HB⟩ := hrel
      cases gk with
      | zero => exact absurd HA.out (by simp [impl_AreBalanced.l0])
      | succ k1 =>
        have H := HA.out
        clear HA
        simp only [impl_AreBalanced.l0] at H
        by_cases c7 : x14_1 < (wrap64 (t102 + 1))
        · rw [if_pos c7] at H
          have c7b0 : decide (x14_1 < (wrap64 (t102 + 1))) = true := decide_eq_true c7
          clear c7
          replace H := Option.bind_eq_some_iff.mp H
          obtain ⟨t103, A80, H⟩ := H
          replace H : (if t103 = true then (impl_AreBalanced.l0 k1 l0 (wrap64 (t102 + 1)) (wrap64 (x14_1 + 1))) else (some (false, 0))) = some (r1, r2) := H
          have A8 := Aside0.mk A80
          clear A80
          by_cases c9 : t103 = true
          · subst c9
            have H1 : (impl_AreBalanced.l0 k1 l0 (wrap64 (t102 + 1)) (wrap64 (x14_1 + 1))) = some (r1, r2) := by rw [if_pos rfl] at H; exact H
            clear H
            have H := H1
            clear H1
            have H' := Aside0.mk H
            clear H
            go_wp2_with (first | ((with_reducible refine gate_callee (f := 62) rfl ?_); refine goesL_ (some 19) rfl rfl Try.func62 (by kernel_rfl) rfl #[.slice A0 l0.length c0, .int .i64 x14_1] rfl (by (try simp only [List.map_toArray, List.map_cons, List.map_nil]); first | done | rfl | (simp only [List.length_drop, List.length_take]; rfl)) ?_; (with_reducible refine (impl_isBalanced.calls k1 (fun k_ => k_ < w.heap.size) _ _ l0 x14_1 true _ ?side1 A8.out).mono ?_); (case side1 => exact Kd.V_mk HC0.out (Kd.F_below (Kd.C_F (Kd.heap_int .i64) HR0.out) (by repeat (first | (with_reducible first | exact HB.out | apply below_alloc | apply pw_below_drewN | apply below_drew1) | exact HB.out)))); rintro e w10 ⟨rfl, hb⟩; refine ⟨_, rfl, ?_⟩; have n0_ := Aside0.mk (below_step (by repeat (first | (with_reducible first | exact HB.out | apply below_alloc | apply pw_below_drewN | apply below_drew1) | exact HB.out)) hb); clear HB; have HB := n0_; clear n0_; (try clear hb); (try clear hb2); (try clear hk); (try clear hi)))
            go_roundg k1
            case measure => have := HK1.out; omega
            case rel => exact ⟨(wrap64 (x14_1 + 1)), (by first | rfl | (simp; done) | (simp [*]; done)), H', ⟨by have := HK1.out; omega⟩, ⟨by repeat (first | (with_reducible first | exact HB.out | apply below_alloc | apply pw_below_drewN | apply below_drew1) | exact HB.out)⟩⟩
          · replace c9 := Bool.eq_false_iff.mpr c9
            subst c9
            have H1 : (some (false, 0)) = some (r1, r2) := by rw [if_neg (show ¬ (false = true) by decide)] at H; exact H
            clear H
            have H := H1
            clear H1
            simp only [Option.some.injEq, Prod.mk.injEq] at H
            obtain ⟨rfl, rfl⟩ := H
            go_wp2_with (first | ((with_reducible refine gate_callee (f := 62) rfl ?_); refine goesL_ (some 19) rfl rfl Try.func62 (by kernel_rfl) rfl #[.slice A0 l0.length c0, .int .i64 x14_1] rfl (by (try simp only [List.map_toArray, List.map_cons, List.map_nil]); first | done | rfl | (simp only [List.length_drop, List.length_take]; rfl)) ?_; (with_reducible refine (impl_isBalanced.calls k1 (fun k_ => k_ < w.heap.size) _ _ l0 x14_1 false _ ?side1 A8.out).mono ?_); (case side1 => exact Kd.V_mk HC0.out (Kd.F_below (Kd.C_F (Kd.heap_int .i64) HR0.out) (by repeat (first | (with_reducible first | exact HB.out | apply below_alloc | apply pw_below_drewN | apply below_drew1) | exact HB.out)))); rintro e w11 ⟨rfl, hb⟩; refine ⟨_, rfl, ?_⟩; have n0_ := Aside0.mk (below_step (by repeat (first | (with_reducible first | exact HB.out | apply below_alloc | apply pw_below_drewN | apply below_drew1) | exact HB.out)) hb); clear HB; have HB := n0_; clear n0_; (try clear hb); (try clear hb2); (try clear hk); (try clear hi)))
            go_ret2
            exact ⟨by first | rfl | (simp [errW_none, errW_some] <;> rfl) | (simp [*, errW_none, errW_some] <;> rfl), by repeat (first | (with_reducible first | exact HB.out | apply below_alloc | apply pw_below_drewN | apply below_drew1) | exact HB.out)⟩
        · rw [if_neg c7] at H
          have c7b0 : decide (x14_1 < (wrap64 (t102 + 1))) = false := decide_eq_false c7
          clear c7
          simp only [Option.some.injEq, Prod.mk.injEq] at H
          obtain ⟨rfl, rfl⟩ := H
          go_wp2
          go_ret2
          exact ⟨by first | rfl | (simp [errW_none, errW_some] <;> rfl) | (simp [*, errW_none, errW_some] <;> rfl), by repeat (first | (with_reducible first | exact HB.out | apply below_alloc | apply pw_below_drewN | apply below_drew1) | exact HB.out)⟩
  · rw [if_neg c3] at H
    have c3b0 : (t101 == 0) = false := beq_eq_false_iff_ne.mpr c3
    have c3b1 : (t101 != 0) = true := bne_iff_ne.mpr c3
    simp only [Option.some.injEq, Prod.mk.injEq] at H
    obtain ⟨rfl, rfl⟩ := H
    go_enter Try.func17, Try.ntmps17
    go_wp2_with (first | ((with_reducible refine gate_callee (f := 60) rfl ?_); refine goesL_ (some 7) rfl rfl Try.func60 (by kernel_rfl) rfl #[.slice A0 l0.length c0] rfl (by (try simp only [List.map_toArray, List.map_cons, List.map_nil]); first | done | rfl | (simp only [List.length_drop, List.length_take]; rfl)) ?_; (with_reducible refine (impl_levelCode.calls k _ _ l0 t101 _ ?side1 ?side2 A2.out).mono ?_); (case side1 => repeat (first | exact HR0.out | (with_reducible refine Kd.C_alloc ?_ _) | (with_reducible refine Kd.C_drewN ?_ _) | (with_reducible refine Kd.C_drew ?_))); (case side2 => exact HC0.out); rintro e w12 ⟨rfl, hb⟩; refine ⟨_, rfl, ?_⟩; have n0_ := Aside0.mk (below_step (by repeat (first | (with_reducible first | exact HB.out | apply below_alloc | apply pw_below_drewN | apply below_drew1) | exact HB.out)) hb); clear HB; have HB := n0_; clear n0_; (try clear hb); (try clear hb2); (try clear hk); (try clear hi)))
    go_ret2
    exact ⟨by first | rfl | (simp [errW_none, errW_some] <;> rfl) | (simp [*, errW_none, errW_some] <;> rfl), by repeat (first | (with_reducible first | exact HB.out | apply below_alloc | apply pw_below_drewN | apply below_drew1) | exact HB.out)⟩
end Go.Proofs.Ytjkgjmaldbmgmaa.P
end
section
namespace Go.Proofs.Ytjkgjmaldbmgmaa.P
open Go.RowKit Go.Proofs.YtjkgjmaldbmgmaaW.PrintWords Go.Proofs.YtjkgjmaldbmgmaaW.PrintLast Go.Proofs.YtjkgjmaldbmgmaaW.PrintMore
attribute [local go_sem] max2_int min2_int max_two min_two max_three min_three max_four min_four   -- for this text's walks alone
set_option linter.unusedVariables false
set_option linter.unusedSimpArgs false
def laws_eqInt64S.l0 : Nat → List Int → List Int → Int → Option (Bool)
  | 0, _, _, _ => none
  | k + 1, x0, x1, x5 => if x5 < (x0.length : Int) then (if 0 ≤ x5 then (if x5 < (x1.length : Int) then (if (rd x0 x5) = (rd x1 x5) then (laws_eqInt64S.l0 k x0 x1 (wrap64 (x5 + 1))) else (some false)) else (none)) else (none)) else (some true)
def laws_eqInt64S.f (k : Nat) (l0 : List Int) (l1 : List Int) : Option (Bool) := if (l0.length : Int) = (l1.length : Int) then (laws_eqInt64S.l0 k l0 l1 0) else (some false)
theorem laws_eqInt64S.mono_l : ∀ k, (∀ y0 y1 y2, LeO (laws_eqInt64S.l0 k y0 y1 y2) (laws_eqInt64S.l0 (k + 1) y0 y1 y2))
  | 0 => fun _ _ _ r h => by simp [laws_eqInt64S.l0] at h
  | k + 1 => by
    have ih0 := laws_eqInt64S.mono_l k
    · intro y0 y1 y2
      unfold laws_eqInt64S.l0
      repeat' first
      | (with_reducible exact ih0 _ _ _)
      | (with_reducible exact LeO.refl _)
      | (with_reducible exact LeO.none _)
      | (with_reducible refine LeO.ite ?_ ?_)
      | (with_reducible refine LeO.bind ?_ (fun _ => ?_))
      | exact ih0 _ _ _
      | exact LeO.none _
      | refine LeO.ite ?_ ?_
      | refine LeO.bind ?_ (fun _ => ?_)
theorem laws_eqInt64S.mono : ∀ a0 a1 k, LeO (laws_eqInt64S.f k a0 a1) (laws_eqInt64S.f (k + 1) a0 a1) := by
  intro a0 a1 k
  have ih0 := laws_eqInt64S.mono_l k
  unfold laws_eqInt64S.f
  repeat' first
      | (with_reducible exact ih0 _ _ _)
      | (with_reducible exact LeO.refl _)
      | (with_reducible exact LeO.none _)
      | (with_reducible refine LeO.ite ?_ ?_)
      | (with_reducible refine LeO.bind ?_ (fun _ => ?_))
      | exact ih0 _ _ _
      | exact LeO.none _
      | refine LeO.ite ?_ ?_
      | refine LeO.bind ?_ (fun _ => ?_)
set_option maxHeartbeats 8000000 in
set_option maxRecDepth 100000 in
theorem laws_eqInt64S.calls (k : Nat) (A0 : Option Addr) (c0 : Nat) (l0 : List Int) (A1 : Option Addr) (c1 : Nat) (l1 : List Int) (r : Bool) (w : World) (hr0 : Kd.C (Kd.int .i64) w A0 l0.length l0) (hc0 : l0.length ≤ c0) (hr1 : Kd.C (Kd.int .i64) w A1 l1.length l1) (hc1 : l1.length ≤ c1) (h : laws_eqInt64S.f k l0 l1 = some r) :
    Calls Try.prog 18 #[.slice A0 l0.length c0, .slice A1 l1.length c1] w fun e w' => e = .returned (.bool r) ∧ Drawn0 w w' := by
  have HR0 := Aside0.mk hr0
  have HC0 := Aside0.mk hc0
  clear hr0 hc0
  have HR1 := Aside0.mk hr1
  have HC1 := Aside0.mk hc1
  clear hr1 hc1
  have H : (if (l0.length : Int) = (l1.length : Int) then (laws_eqInt64S.l0 k l0 l1 0) else (some false)) = some r := h
  clear h
  by_cases c3 : (l0.length : Int) = (l1.length : Int)
  · rw [if_pos c3] at H
    have c3b0 : ((l0.length : Int) == (l1.length : Int)) = true := beq_iff_eq.mpr c3
    have c3b1 : ((l0.length : Int) != (l1.length : Int)) = false := bne_eq_false_iff_eq.mpr c3
    have c3b2 : (l0.length == l1.length) = true := by first | simpa using c3 | (simp at c3 ⊢; omega)
    clear c3
    have H' := Aside0.mk H
    clear H
    go_enter Try.func18, Try.ntmps18
    go_wp2
    repeat (go_quiet (fail); try go_wp2)
    go_loopg [5] k (fun kq v5 w' => ∃ (x5_1 : Int), v5 = .int .i64 x5_1 ∧ Aside0 (laws_eqInt64S.l0 kq l0 l1 x5_1 = some r) ∧ Aside0 (kq ≤ k) ∧ Drawn0 w w')
    case atStart => exact ⟨(0), (by first | rfl | (simp; done) | (simp [*]; done)), H', ⟨Nat.le_refl _⟩, by repeat (first | exact Drawn0.refl _ | apply Drawn0.step)⟩
    case round =>
      clear H'
      try clear c1
      try clear p2
      try clear c3
      try clear c3b0
      try clear c3b1
      try clear c3b2
      obtain ⟨x5_1, rfl, HA, HK1, ⟨m1, rfl⟩⟩ := hrel
      cases gk with
      | zero => exact absurd HA.out (by simp [laws_eqInt64S.l0])
      | succ k1 =>
        have H := HA.out
        clear HA
        simp only [laws_eqInt64S.l0] at H
        by_cases c4 : x5_1 < (l0.length : Int)
        · rw [if_pos c4] at H
          have c4b0 : decide (x5_1 < (l0.length : Int)) = true := decide_eq_true c4
          clear c4
          by_cases c5 : 0 ≤ x5_1
          · rw [if_pos c5] at H
            have c5b0 : decide (0 ≤ x5_1) = true := decide_eq_true c5
            clear c5
            by_cases c6 : x5_1 < (l1.length : Int)
            · rw [if_pos c6] at H
              have c6b0 : decide (x5_1 < (l1.length : Int)) = true := decide_eq_true c6
              clear c6
              by_cases c7 : (rd l0 x5_1) = (rd l1 x5_1)
              · rw [if_pos c7] at H
                have c7b0 : ((rd l0 x5_1) == (rd l1 x5_1)) = true := beq_iff_eq.mpr c7
                have c7b1 : ((rd l0 x5_1) != (rd l1 x5_1)) = false := bne_eq_false_iff_eq.mpr c7
                clear c7
                have H' := Aside0.mk H
                clear H
                have p101 : 0 ≤ (x5_1 : Int) := of_decide_eq_true (by first | (with_reducible assumption) | assumption)
                have q101 : x5_1 < (l0.length : Int) := of_decide_eq_true (by first | (with_reducible assumption) | assumption)
                obtain ⟨ad101, e101, hx101_0⟩ := Kd.at_int HR0.out x5_1 p101 q101
                cases e101
                replace p101 := eq_true p101
                replace q101 := eq_true q101
                have p102 : 0 ≤ (x5_1 : Int) := of_decide_eq_true (by first | (with_reducible assumption) | assumption)
                have q102 : x5_1 < (l1.length : Int) := of_decide_eq_true (by first | (with_reducible assumption) | assumption)
                obtain ⟨ad102, e102, hx102_0⟩ := Kd.at_int HR1.out x5_1 p102 q102
                cases e102
                replace p102 := eq_true p102
                replace q102 := eq_true q102
                go_wp2
                repeat (go_quiet (fail); try go_wp2)
                go_roundg k1
                case measure => have := HK1.out; omega
                case rel => exact ⟨(wrap64 (x5_1 + 1)), (by first | rfl | (simp; done) | (simp [*]; done)), H', ⟨by have := HK1.out; omega⟩, by repeat (first | exact Drawn0.refl _ | apply Drawn0.step)⟩
              · rw [if_neg c7] at H
                have c7b0 : ((rd l0 x5_1) == (rd l1 x5_1)) = false := beq_eq_false_iff_ne.mpr c7
                have c7b1 : ((rd l0 x5_1) != (rd l1 x5_1)) = true := bne_iff_ne.mpr c7
                obtain rfl := Option.some.inj H
                have p101 : 0 ≤ (x5_1 : Int) := of_decide_eq_true (by first | (with_reducible assumption) | assumption)
                have q101 : x5_1 < (l0.length : Int) := of_decide_eq_true (by first | (with_reducible assumption) | assumption)
                obtain ⟨ad101, e101, hx101_0⟩ := Kd.at_int HR0.out x5_1 p101 q101
                cases e101
                replace p101 := eq_true p101
                replace q101 := eq_true q101
                have p102 : 0 ≤ (x5_1 : Int) := of_decide_eq_true (by first | (with_reducible assumption) | assumption)
                have q102 : x5_1 < (l1.length : Int) := of_decide_eq_true (by first | (with_reducible assumption) | assumption)
                obtain ⟨ad102, e102, hx102_0⟩ := Kd.at_int HR1.out x5_1 p102 q102
                cases e102
                replace p102 := eq_true p102
                replace q102 := eq_true q102
                go_wp2
                repeat (go_quiet (fail); try go_wp2)
                go_ret
                exact ⟨by first | rfl | (simp; done) | (simp [*]; done), by repeat (first | exact Drawn0.refl _ | apply Drawn0.step)⟩
            · rw [if_neg c6] at H
              exact absurd H (by simp)
          · rw [if_neg c5] at H
            exact absurd H (by simp)
        · rw [if_neg c4] at H
          have c4b0 : decide (x5_1 < (l0.length : Int)) = false := decide_eq_false c4
          clear c4
          obtain rfl := Option.some.inj H
          go_wp2
          repeat (go_quiet (fail); try go_wp2)
          go_ret
          exact ⟨by first | rfl | (simp; done) | (simp [*]; done), by repeat (first | exact Drawn0.refl _ | apply Drawn0.step)⟩
  · rw [if_neg c3] at H
    have c3b0 : ((l0.length : Int) == (l1.length : Int)) = false := beq_eq_false_iff_ne.mpr c3
    have c3b1 : ((l0.length : Int) != (l1.length : Int)) = true := bne_iff_ne.mpr c3
    have c3b2 : (l0.length == l1.length) = false := by first | simpa using c3 | (simp at c3 ⊢; omega)
    obtain rfl := Option.some.inj H
    go_enter Try.func18, Try.ntmps18
    go_wp2
    repeat (go_quiet (fail); try go_wp2)
    go_ret
    exact ⟨by first | rfl | (simp; done) | (simp [*]; done), by repeat (first | exact Drawn0.refl _ | apply Drawn0.step)⟩
end Go.Proofs.Ytjkgjmaldbmgmaa.P
end
section
namespace Go.Proofs.Ytjkgjmaldbmgmaa.P
open Go.RowKit Go.Proofs.YtjkgjmaldbmgmaaW.PrintWords Go.Proofs.YtjkgjmaldbmgmaaW.PrintLast Go.Proofs.YtjkgjmaldbmgmaaW.PrintMore
attribute [local go_sem] max2_int min2_int max_two min_two max_three min_three max_four min_four   -- for this text's walks alone
set_option linter.unusedVariables false
set_option linter.unusedSimpArgs false
def laws_FnExactAreBalanced.j0 : Nat → List Int → List Int → Bool → Option (Bool)
  | 0, _, _, _ => none
  | k + 1, x0, x5, x31 => if x31 = true then (some false) else ((laws_toInt64S.f k x0).bind fun t111 => ((laws_eqInt64S.f k x5 t111).bind fun t114 => (if t114 = true then (some true) else (some false))))
def laws_FnExactAreBalanced.f (k : Nat) (l0 : List Int) : Option (Bool) := if (l0.length : Int) > 1048576 then (some true) else ((laws_toInt64S.f k l0).bind fun t101 => ((spec_AreBalanced.f k t101).bind fun bt104 => ((laws_toInt64S.f k l0).bind fun t106 => ((impl_AreBalanced.f k t106).bind fun bt109 => (if (bt109.1 != bt104.1) = true then (laws_FnExactAreBalanced.j0 k l0 t106 true) else (laws_FnExactAreBalanced.j0 k l0 t106 (bt109.2 != bt104.2)))))))
theorem laws_FnExactAreBalanced.mono_l : ∀ k, (∀ y0 y1 y2, LeO (laws_FnExactAreBalanced.j0 k y0 y1 y2) (laws_FnExactAreBalanced.j0 (k + 1) y0 y1 y2))
  | 0 => fun _ _ _ r h => by simp [laws_FnExactAreBalanced.j0] at h
  | k + 1 => by
    have ih0 := laws_FnExactAreBalanced.mono_l k
    · intro y0 y1 y2
      unfold laws_FnExactAreBalanced.j0
      repeat' first
      | (with_reducible exact ih0 _ _ _)
      | (with_reducible exact impl_AreBalanced.mono _ _)
      | (with_reducible exact laws_eqInt64S.mono _ _ _)
      | (with_reducible exact laws_toInt64S.mono _ _)
      | (with_reducible exact spec_AreBalanced.mono _ _)
      | (with_reducible exact LeO.refl _)
      | (with_reducible exact LeO.none _)
      | (with_reducible refine LeO.ite ?_ ?_)
      | (with_reducible refine LeO.bind ?_ (fun _ => ?_))
      | exact ih0 _ _ _
      | exact impl_AreBalanced.mono _ _
      | exact laws_eqInt64S.mono _ _ _
      | exact laws_toInt64S.mono _ _
      | exact spec_AreBalanced.mono _ _
      | exact LeO.none _
      | refine LeO.ite ?_ ?_
      | refine LeO.bind ?_ (fun _ => ?_)
theorem laws_FnExactAreBalanced.mono : ∀ a0 k, LeO (laws_FnExactAreBalanced.f k a0) (laws_FnExactAreBalanced.f (k + 1) a0) := by
  intro a0 k
  have ih0 := laws_FnExactAreBalanced.mono_l k
  unfold laws_FnExactAreBalanced.f
  repeat' first
      | (with_reducible exact ih0 _ _ _)
      | (with_reducible exact impl_AreBalanced.mono _ _)
      | (with_reducible exact laws_eqInt64S.mono _ _ _)
      | (with_reducible exact laws_toInt64S.mono _ _)
      | (with_reducible exact spec_AreBalanced.mono _ _)
      | (with_reducible exact LeO.refl _)
      | (with_reducible exact LeO.none _)
      | (with_reducible refine LeO.ite ?_ ?_)
      | (with_reducible refine LeO.bind ?_ (fun _ => ?_))
      | exact ih0 _ _ _
      | exact impl_AreBalanced.mono _ _
      | exact laws_eqInt64S.mono _ _ _
      | exact laws_toInt64S.mono _ _
      | exact spec_AreBalanced.mono _ _
      | exact LeO.none _
      | refine LeO.ite ?_ ?_
      | refine LeO.bind ?_ (fun _ => ?_)
set_option maxHeartbeats 8000000 in
set_option maxRecDepth 100000 in
theorem laws_FnExactAreBalanced.calls (k : Nat) (A0 : Option Addr) (c0 : Nat) (l0 : List Int) (r : Bool) (w : World) (hr0 : Kd.C (Kd.int .i64) w A0 l0.length l0) (hc0 : l0.length ≤ c0) (h : laws_FnExactAreBalanced.f k l0 = some r) :
    Calls Try.prog 3 #[.slice A0 l0.length c0] w fun e w' => e = .returned (.bool r) ∧ Below w.heap.size w w' := by
  have HR0 := Aside0.mk hr0
  have HC0 := Aside0.mk hc0
  clear hr0 hc0
  have HB := Aside0.mk (Below.refl w.heap.size w)
  have H : (if (l0.length : Int) > 1048576 then (some true) else ((laws_toInt64S.f k l0).bind fun t101 => ((spec_AreBalanced.f k t101).bind fun bt104 => ((laws_toInt64S.f k l0).bind fun t106 => ((impl_AreBalanced.f k t106).bind fun bt109 => (if (bt109.1 != bt104.1) = true then (laws_FnExactAreBalanced.j0 k l0 t106 true) else (laws_FnExactAreBalanced.j0 k l0 t106 (bt109.2 != bt104.2)))))))) = some r := h
  clear h
  by_cases c2 : (l0.length : Int) > 1048576
  · rw [if_pos c2] at H
    have c2b0 : decide (1048576 < (l0.length : Int)) = true := decide_eq_true c2
    have c2b1 : decide (1048576 < l0.length) = true := decide_eq_true (by omega)
    clear c2
    obtain rfl := Option.some.inj H
    go_enter Try.func3, Try.ntmps3
    go_wp2
    go_ret
    exact ⟨by first | rfl | (simp [errW_none, errW_some] <;> rfl) | (simp [*, errW_none, errW_some] <;> rfl), by repeat (first | (with_reducible first | exact HB.out | apply below_alloc | apply pw_below_drewN | apply below_drew1) | exact HB.out)⟩
  · rw [if_neg c2] at H
    have c2b0 : decide (1048576 < (l0.length : Int)) = false := decide_eq_false c2
    have c2b1 : decide (1048576 < l0.length) = false := decide_eq_false (by omega)
    clear c2
    replace H := Option.bind_eq_some_iff.mp H
    obtain ⟨t101, A30, H⟩ := H
    replace H : ((spec_AreBalanced.f k t101).bind fun bt104 => ((laws_toInt64S.f k l0).bind fun t106 => ((impl_AreBalanced.f k t106).bind fun bt109 => (if (bt109.1 != bt104.1) = true then (laws_FnExactAreBalanced.j0 k l0 t106 true) else (laws_FnExactAreBalanced.j0 k l0 t106 (bt109.2 != bt104.2)))))) = some r := H
    have A3 := Aside0.mk A30
    clear A30
    replace H := Option.bind_eq_some_iff.mp H
    obtain ⟨⟨t104, t105⟩, A40, H⟩ := H
    replace H : ((laws_toInt64S.f k l0).bind fun t106 => ((impl_AreBalanced.f k t106).bind fun bt109 => (if (bt109.1 != t104) = true then (laws_FnExactAreBalanced.j0 k l0 t106 true) else (laws_FnExactAreBalanced.j0 k l0 t106 (bt109.2 != t105))))) = some r := H
    have A4 := Aside0.mk A40
    clear A40
    replace H := Option.bind_eq_some_iff.mp H
    obtain ⟨t106, A50, H⟩ := H
    replace H : ((impl_AreBalanced.f k t106).bind fun bt109 => (if (bt109.1 != t104) = true then (laws_FnExactAreBalanced.j0 k l0 t106 true) else (laws_FnExactAreBalanced.j0 k l0 t106 (bt109.2 != t105)))) = some r := H
    have A5 := Aside0.mk A50
    clear A50
    replace H := Option.bind_eq_some_iff.mp H
    obtain ⟨⟨t109, t110⟩, A60, H⟩ := H
    replace H : (if (t109 != t104) = true then (laws_FnExactAreBalanced.j0 k l0 t106 true) else (laws_FnExactAreBalanced.j0 k l0 t106 (t110 != t105))) = some r := H
    have A6 := Aside0.mk A60
    clear A60
    have HC7 := Aside0.mk H
    clear H
    go_enter Try.func3, Try.ntmps3
    go_upto_region 6 with (first | ((with_reducible refine gate_callee (f := 16) rfl ?_); refine goesL_ (some 13) rfl rfl Try.func16 (by kernel_rfl) rfl #[.slice A0 l0.length c0] rfl (by (try simp only [List.map_toArray, List.map_cons, List.map_nil]); first | done | rfl | (simp only [List.length_drop, List.length_take]; rfl)) ?_; (with_reducible refine (laws_toInt64S.calls k _ _ l0 t101 _ ?side1 ?side2 A3.out).mono ?_); (case side1 => repeat (first | exact HR0.out | (with_reducible refine Kd.C_alloc ?_ _) | (with_reducible refine Kd.C_drewN ?_ _) | (with_reducible refine Kd.C_drew ?_))); (case side2 => exact HC0.out); rintro e w8 ⟨v102, rfl, ho0, hb⟩; refine ⟨_, rfl, ?_⟩; have n0_ := Aside0.mk (Kd.R_lower ho0 (below_size (by repeat (first | (with_reducible first | exact HB.out | apply below_alloc | apply pw_below_drewN | apply below_drew1) | exact HB.out)))); have n1_ := Aside0.mk (below_step (by repeat (first | (with_reducible first | exact HB.out | apply below_alloc | apply pw_below_drewN | apply below_drew1) | exact HB.out)) hb); clear HB; have HO103 := n0_; have HB := n1_; clear n0_ n1_; (try clear hb); (try clear hb2); (try clear hk); (try clear hi); (try clear ho0); obtain ⟨Ao9, co9, eo9⟩ := Kd.R_slice HO103.out; subst eo9) | ((with_reducible refine gate_callee (f := 15) rfl ?_); refine goesL_ (some 14) rfl rfl Try.func15 (by kernel_rfl) rfl #[.slice Ao9 t101.length co9] rfl (by (try simp only [List.map_toArray, List.map_cons, List.map_nil]); first | done | rfl | (simp only [List.length_drop, List.length_take]; rfl)) ?_; (with_reducible refine (spec_AreBalanced.calls k _ _ t101 t104 t105 _ ?side1 ?side2 A4.out).mono ?_); (case side1 => repeat (first | exact (Kd.R_reads' HO103.out).2.2 | (with_reducible refine Kd.C_alloc ?_ _) | (with_reducible refine Kd.C_drewN ?_ _) | (with_reducible refine Kd.C_drew ?_))); (case side2 => exact (Kd.R_reads' HO103.out).2.1); rintro e w10 ⟨rfl, hb⟩; refine ⟨_, rfl, ?_⟩; have n0_ := Aside0.mk (Kd.R_below (by (with_reducible repeat (first | apply Kd.R_alloc | apply Kd.R_drewN | apply Kd.R_drew)); exact HO103.out) hb); have n1_ := Aside0.mk (below_step (by repeat (first | (with_reducible first | exact HB.out | apply below_alloc | apply pw_below_drewN | apply below_drew1) | exact HB.out)) hb); clear HO103; clear HB; have HO103 := n0_; have HB := n1_; clear n0_ n1_; (try clear hb); (try clear hb2); (try clear hk); (try clear hi)) | ((with_reducible refine gate_callee (f := 16) rfl ?_); refine goesL_ (some 18) rfl rfl Try.func16 (by kernel_rfl) rfl #[.slice A0 l0.length c0] rfl (by (try simp only [List.map_toArray, List.map_cons, List.map_nil]); first | done | rfl | (simp only [List.length_drop, List.length_take]; rfl)) ?_; (with_reducible refine (laws_toInt64S.calls k _ _ l0 t106 _ ?side1 ?side2 A5.out).mono ?_); (case side1 => repeat (first | exact (Kd.C_below HR0.out HB.out) | (with_reducible refine Kd.C_alloc ?_ _) | (with_reducible refine Kd.C_drewN ?_ _) | (with_reducible refine Kd.C_drew ?_))); (case side2 => exact HC0.out); rintro e w11 ⟨v107, rfl, ho0, hb⟩; refine ⟨_, rfl, ?_⟩; have n0_ := Aside0.mk (Kd.R_elder' (by (with_reducible repeat (first | apply Kd.R_alloc | apply Kd.R_drewN | apply Kd.R_drew)); exact HO103.out) (Kd.R_base ho0) hb); have n1_ := Aside0.mk (Kd.R_lower (Kd.R_new' ho0 (Kd.R_lt (by (with_reducible repeat (first | apply Kd.R_alloc | apply Kd.R_drewN | apply Kd.R_drew)); exact HO103.out))) (below_size (by repeat (first | (with_reducible first | exact HB.out | apply below_alloc | apply pw_below_drewN | apply below_drew1) | exact HB.out)))); have n2_ := Aside0.mk (below_step (by repeat (first | (with_reducible first | exact HB.out | apply below_alloc | apply pw_below_drewN | apply below_drew1) | exact HB.out)) hb); clear HO103; clear HB; have HO103 := n0_; have HO108 := n1_; have HB := n2_; clear n0_ n1_ n2_; (try clear hb); (try clear hb2); (try clear hk); (try clear hi); (try clear ho0); obtain ⟨Ao12, co12, eo12⟩ := Kd.R_slice HO108.out; subst eo12) | ((with_reducible refine gate_callee (f := 17) rfl ?_); refine goesL_ (some 21) rfl rfl Try.func17 (by kernel_rfl) rfl #[.slice Ao12 t106.length co12] rfl (by (try simp only [List.map_toArray, List.map_cons, List.map_nil]); first | done | rfl | (simp only [List.length_drop, List.length_take]; rfl)) ?_; (with_reducible refine (impl_AreBalanced.calls k _ _ t106 t109 t110 _ ?side1 ?side2 A6.out).mono ?_); (case side1 => repeat (first | exact (Kd.R_reads' HO108.out).2.2 | (with_reducible refine Kd.C_alloc ?_ _) | (with_reducible refine Kd.C_drewN ?_ _) | (with_reducible refine Kd.C_drew ?_))); (case side2 => exact (Kd.R_reads' HO108.out).2.1); rintro e w13 ⟨rfl, hb⟩; refine ⟨_, rfl, ?_⟩; have n0_ := Aside0.mk (Kd.R_below (by (with_reducible repeat (first | apply Kd.R_alloc | apply Kd.R_drewN | apply Kd.R_drew)); exact HO103.out) hb); have n1_ := Aside0.mk (Kd.R_below (by (with_reducible repeat (first | apply Kd.R_alloc | apply Kd.R_drewN | apply Kd.R_drew)); exact HO108.out) hb); have n2_ := Aside0.mk (below_step (by repeat (first | (with_reducible first | exact HB.out | apply below_alloc | apply pw_below_drewN | apply below_drew1) | exact HB.out)) hb); clear HO103; clear HO108; clear HB; have HO103 := n0_; have HO108 := n1_; have HB := n2_; clear n0_ n1_ n2_; (try clear hb); (try clear hb2); (try clear hk); (try clear hi)))
    (try simp only [Act.put, List.setIfInBounds_toArray, List.set_cons_zero, List.set_cons_succ])
    go_cut [31] (fun v31 wc => ∃ (kq : Nat) (x31_6 : Bool), v31 = .bool x31_6 ∧ Aside0 (laws_FnExactAreBalanced.j0 kq l0 t106 x31_6 = some r) ∧ Aside0 (kq ≤ k) ∧ Aside0 (Kd.R (Kd.int .i64) 2 wc w.heap.size (fun _ => True) (.slice Ao12 t106.length co12) t106) ∧ Aside0 (Below w.heap.size w wc))
    case first =>
      have H := HC7.out
      clear HC7
      by_cases c14 : (t109 != t104) = true
      · rw [if_pos c14] at H
        have c14b0 : (t109 != t104) = true := c14
        (try (have c14b1 : decide (t109 = t104) = false := by simpa using c14))
        (try (have c14b2 : (t109 == t104) = false := by simpa using c14))
        (try (have c14b3 : ¬ (t109 = t104) := by simpa using c14))
        clear c14
        (first | rw [c14b0] | (simp only [i64_w, i32_w]; rw [c14b0]) | skip)
        have H' := Aside0.mk H
        clear H
        go_wp2
        go_meet
        case rel => exact ⟨_, (true), (by first | rfl | (simp; done) | (simp [*]; done)), H', ⟨by first | omega | exact Nat.le_refl _⟩, ⟨by (with_reducible repeat (first | apply Kd.R_alloc | apply Kd.R_drewN | apply Kd.R_drew)); exact Kd.R_mono HO108.out (fun _ hk => trivial)⟩, ⟨by repeat (first | (with_reducible first | exact HB.out | apply below_alloc | apply pw_below_drewN | apply below_drew1) | exact HB.out)⟩⟩
      · rw [if_neg c14] at H
        have c14b0 : (t109 != t104) = false := by simpa using c14
        (try (have c14b1 : decide (t109 = t104) = true := by simpa using c14))
        (try (have c14b2 : (t109 == t104) = true := by simpa using c14))
        clear c14
        (first | rw [c14b0] | (simp only [i64_w, i32_w]; rw [c14b0]) | skip)
        have H' := Aside0.mk H
        clear H
        go_wp2
        go_meet
        case rel => exact ⟨_, ((t110 != t105)), (by first | rfl | (simp; done) | (simp [*]; done)), H', ⟨by first | omega | exact Nat.le_refl _⟩, ⟨by (with_reducible repeat (first | apply Kd.R_alloc | apply Kd.R_drewN | apply Kd.R_drew)); exact Kd.R_mono HO108.out (fun _ hk => trivial)⟩, ⟨by repeat (first | (with_reducible first | exact HB.out | apply below_alloc | apply pw_below_drewN | apply below_drew1) | exact HB.out)⟩⟩
    case rest =>
      clear HC7
      try clear c1
      try clear c2
      try clear c2b0
      try clear c2b1
      try clear p2
      try clear c3
      try clear c14
      try clear c14b0
      try clear c14b1
      try clear c14b2
      obtain ⟨kq, x31_6, rfl, HA, HJ6, HO_5, HB⟩ := hcut
      cases kq with
      | zero => exact absurd HA.out (by simp [laws_FnExactAreBalanced.j0])
      | succ kj6 =>
        have H := HA.out
        clear HA
        simp only [laws_FnExactAreBalanced.j0] at H
        by_cases c15 : x31_6 = true
        · subst c15
          have H1 : (some false) = some r := by rw [if_pos rfl] at H; exact H
          clear H
          have H := H1
          clear H1
          obtain rfl := Option.some.inj H
          go_wp2
          go_ret
          exact ⟨by first | rfl | (simp [errW_none, errW_some] <;> rfl) | (simp [*, errW_none, errW_some] <;> rfl), by repeat (first | (with_reducible first | exact HB.out | apply below_alloc | apply pw_below_drewN | apply below_drew1) | exact HB.out)⟩
        · replace c15 := Bool.eq_false_iff.mpr c15
          subst c15
          have H1 : ((laws_toInt64S.f kj6 l0).bind fun t111 => ((laws_eqInt64S.f kj6 t106 t111).bind fun t114 => (if t114 = true then (some true) else (some false)))) = some r := by rw [if_neg (show ¬ (false = true) by decide)] at H; exact H
          clear H
          have H := H1
          clear H1
          replace H := Option.bind_eq_some_iff.mp H
          obtain ⟨t111, A160, H⟩ := H
          replace H : ((laws_eqInt64S.f kj6 t106 t111).bind fun t114 => (if t114 = true then (some true) else (some false))) = some r := H
          have A16 := Aside0.mk A160
          clear A160
          replace H := Option.bind_eq_some_iff.mp H
          obtain ⟨t114, A170, H⟩ := H
          replace H : (if t114 = true then (some true) else (some false)) = some r := H
          have A17 := Aside0.mk A170
          clear A170
          by_cases c18 : t114 = true
          · subst c18
            have H1 : (some true) = some r := by rw [if_pos rfl] at H; exact H
            clear H
            have H := H1
            clear H1
            obtain rfl := Option.some.inj H
            go_wp2_with (first | ((with_reducible refine gate_callee (f := 16) rfl ?_); refine goesL_ (some 34) rfl rfl Try.func16 (by kernel_rfl) rfl #[.slice A0 l0.length c0] rfl (by (try simp only [List.map_toArray, List.map_cons, List.map_nil]); first | done | rfl | (simp only [List.length_drop, List.length_take]; rfl)) ?_; (with_reducible refine (laws_toInt64S.calls kj6 _ _ l0 t111 _ ?side1 ?side2 A16.out).mono ?_); (case side1 => repeat (first | exact (Kd.C_below HR0.out HB.out) | (with_reducible refine Kd.C_alloc ?_ _) | (with_reducible refine Kd.C_drewN ?_ _) | (with_reducible refine Kd.C_drew ?_))); (case side2 => exact HC0.out); rintro e w19 ⟨v112, rfl, ho0, hb⟩; refine ⟨_, rfl, ?_⟩; have n0_ := Aside0.mk (Kd.R_elder' (by (with_reducible repeat (first | apply Kd.R_alloc | apply Kd.R_drewN | apply Kd.R_drew)); exact HO_5.out) (Kd.R_base ho0) hb); have n1_ := Aside0.mk (Kd.R_lower (Kd.R_new' ho0 (Kd.R_lt (by (with_reducible repeat (first | apply Kd.R_alloc | apply Kd.R_drewN | apply Kd.R_drew)); exact HO_5.out))) (below_size (by repeat (first | (with_reducible first | exact HB.out | apply below_alloc | apply pw_below_drewN | apply below_drew1) | exact HB.out)))); have n2_ := Aside0.mk (below_step (by repeat (first | (with_reducible first | exact HB.out | apply below_alloc | apply pw_below_drewN | apply below_drew1) | exact HB.out)) hb); clear HO_5; clear HB; have HO_5 := n0_; have HO113 := n1_; have HB := n2_; clear n0_ n1_ n2_; (try clear hb); (try clear hb2); (try clear hk); (try clear hi); (try clear ho0); obtain ⟨Ao20, co20, eo20⟩ := Kd.R_slice HO113.out; subst eo20) | ((with_reducible refine gate_callee (f := 18) rfl ?_); refine goesL_ (some 35) rfl rfl Try.func18 (by kernel_rfl) rfl #[.slice Ao12 t106.length co12, .slice Ao20 t111.length co20] rfl (by (try simp only [List.map_toArray, List.map_cons, List.map_nil]); first | done | rfl | (simp only [List.length_drop, List.length_take]; rfl)) ?_; (with_reducible refine (laws_eqInt64S.calls kj6 _ _ t106 _ _ t111 true _ ?side1 ?side2 ?side3 ?side4 A17.out).mono ?_); (case side1 => repeat (first | exact (Kd.R_reads' HO_5.out).2.2 | (with_reducible refine Kd.C_alloc ?_ _) | (with_reducible refine Kd.C_drewN ?_ _) | (with_reducible refine Kd.C_drew ?_))); (case side2 => exact (Kd.R_reads' HO_5.out).2.1); (case side3 => repeat (first | exact (Kd.R_reads' HO113.out).2.2 | (with_reducible refine Kd.C_alloc ?_ _) | (with_reducible refine Kd.C_drewN ?_ _) | (with_reducible refine Kd.C_drew ?_))); (case side4 => exact (Kd.R_reads' HO113.out).2.1); rintro e w' ⟨rfl, ⟨nd, rfl⟩⟩; refine ⟨_, rfl, ?_⟩))
            go_ret
            exact ⟨by first | rfl | (simp [errW_none, errW_some] <;> rfl) | (simp [*, errW_none, errW_some] <;> rfl), by repeat (first | (with_reducible first | exact HB.out | apply below_alloc | apply pw_below_drewN | apply below_drew1) | exact HB.out)⟩
          · replace c18 := Bool.eq_false_iff.mpr c18
            subst c18
            have H1 : (some false) = some r := by rw [if_neg (show ¬ (false = true) by decide)] at H; exact H
            clear H
            have H := H1
            clear H1
            obtain rfl := Option.some.inj H
            go_wp2_with (first | ((with_reducible refine gate_callee (f := 16) rfl ?_); refine goesL_ (some 34) rfl rfl Try.func16 (by kernel_rfl) rfl #[.slice A0 l0.length c0] rfl (by (try simp only [List.map_toArray, List.map_cons, List.map_nil]); first | done | rfl | (simp only [List.length_drop, List.length_take]; rfl)) ?_; (with_reducible refine (laws_toInt64S.calls kj6 _ _ l0 t111 _ ?side1 ?side2 A16.out).mono ?_); (case side1 => repeat (first | exact (Kd.C_below HR0.out HB.out) | (with_reducible refine Kd.C_alloc ?_ _) | (with_reducible refine Kd.C_drewN ?_ _) | (with_reducible refine Kd.C_drew ?_))); (case side2 => exact HC0.out); rintro e w21 ⟨v112, rfl, ho0, hb⟩; refine ⟨_, rfl, ?_⟩; have n0_ := Aside0.mk (Kd.R_elder' (by (with_reducible repeat (first | apply Kd.R_alloc | apply Kd.R_drewN | apply Kd.R_drew)); exact HO_5.out) (Kd.R_base ho0) hb); have n1_ := Aside0.mk (Kd.R_lower (Kd.R_new' ho0 (Kd.R_lt (by (with_reducible repeat (first | apply Kd.R_alloc | apply Kd.R_drewN | apply Kd.R_drew)); exact HO_5.out))) (below_size (by repeat (first | (with_reducible first | exact HB.out | apply below_alloc | apply pw_below_drewN | apply below_drew1) | exact HB.out)))); have n2_ := Aside0.mk (below_step (by repeat (first | (with_reducible first | exact HB.out | apply below_alloc | apply pw_below_drewN | apply below_drew1) | exact HB.out)) hb); clear HO_5; clear HB; have HO_5 := n0_; have HO113 := n1_; have HB := n2_; clear n0_ n1_ n2_; (try clear hb); (try clear hb2); (try clear hk); (try clear hi); (try clear ho0); obtain ⟨Ao22, co22, eo22⟩ := Kd.R_slice HO113.out; subst eo22) | ((with_reducible refine gate_callee (f := 18) rfl ?_); refine goesL_ (some 35) rfl rfl Try.func18 (by kernel_rfl) rfl #[.slice Ao12 t106.length co12, .slice Ao22 t111.length co22] rfl (by (try simp only [List.map_toArray, List.map_cons, List.map_nil]); first | done | rfl | (simp only [List.length_drop, List.length_take]; rfl)) ?_; (with_reducible refine (laws_eqInt64S.calls kj6 _ _ t106 _ _ t111 false _ ?side1 ?side2 ?side3 ?side4 A17.out).mono ?_); (case side1 => repeat (first | exact (Kd.R_reads' HO_5.out).2.2 | (with_reducible refine Kd.C_alloc ?_ _) | (with_reducible refine Kd.C_drewN ?_ _) | (with_reducible refine Kd.C_drew ?_))); (case side2 => exact (Kd.R_reads' HO_5.out).2.1); (case side3 => repeat (first | exact (Kd.R_reads' HO113.out).2.2 | (with_reducible refine Kd.C_alloc ?_ _) | (with_reducible refine Kd.C_drewN ?_ _) | (with_reducible refine Kd.C_drew ?_))); (case side4 => exact (Kd.R_reads' HO113.out).2.1); rintro e w' ⟨rfl, ⟨nd, rfl⟩⟩; refine ⟨_, rfl, ?_⟩))
            go_ret
            exact ⟨by first | rfl | (simp [errW_none, errW_some] <;> rfl) | (simp [*, errW_none, errW_some] <;> rfl), by repeat (first | (with_reducible first | exact HB.out | apply below_alloc | apply pw_below_drewN | apply below_drew1) | exact HB.out)⟩
/-- THE ONE PURE STATEMENT of laws_FnExactAreBalanced: yours. -/
def laws_FnExactAreBalanced.Pure : Prop := ∀ (l0 : List Int), l0.length ≤ maxLen → l0.length * 8 ≤ 140737488351232 → (∀ x ∈ l0, (Lit.int .i64 x).wf = true) → ∃ k, laws_FnExactAreBalanced.f k l0 = some true
theorem laws_FnExactAreBalanced.walk (P : laws_FnExactAreBalanced.Pure) (a0 : Option Addr) (len0 cap0 : Nat) (z0 : List Int) (w : World) (w0 : (a0 = none ∧ len0 = 0 ∧ cap0 = 0 ∧ z0 = []) ∨ ∃ x, a0 = some x ∧ len0 ≤ cap0 ∧ cap0 ≤ maxLen ∧ z0.length = cap0 ∧ (∀ i, i < z0.length → w.cell? (x.add i) = some (.int .i64 (z0.getD i 0))) ∧ ∀ n ∈ z0, (Lit.int .i64 n).wf = true) (y0 : len0 * 8 ≤ 140737488351232) :
    Calls Try.prog 3 #[.slice a0 len0 cap0] w fun e w' => e = .returned (.bool true) ∧ Below w.heap.size w w' := by
  obtain ⟨l0, rfl, hr0, hm0, hw0, hc0⟩ := ReadsInt.ofRowC w0
  obtain ⟨k, h⟩ := P l0 hm0 y0 hw0
  refine (laws_FnExactAreBalanced.calls k _ _ l0 true w (Kd.C_of_reads (d := (0 : Int)) (h1 := fun _ => rfl) hr0) hc0 h).mono ?_
  rintro e w' ⟨rfl, hd⟩
  exact ⟨rfl, hd⟩
end Go.Proofs.Ytjkgjmaldbmgmaa.P
end
section
namespace Go.Proofs.Ytjkgjmaldbmgmaa.Pure
set_option linter.unusedVariables false
set_option linter.unusedSimpArgs false
/-- how often x stands in a list -/
def cnt (x : Int) : List Int → Int
  | [] => 0
  | y :: l => (if y = x then 1 else 0) + cnt x l
theorem cnt_append (x : Int) (a b : List Int) : cnt x (a ++ b) = cnt x a + cnt x b := by
  induction a with
  | nil => simp [cnt]
  | cons y a ih => simp only [List.cons_append, cnt, ih]; omega
theorem cnt_take_succ (x : Int) (l : List Int) (n : Nat) (h : n < l.length) : cnt x (l.take (n + 1)) = cnt x (l.take n) + (if l[n] = x then 1 else 0) := by
  rw [List.take_succ_eq_append_getElem h, cnt_append]; simp [cnt]
theorem cnt_bounds (x : Int) (l : List Int) : 0 ≤ cnt x l ∧ cnt x l ≤ l.length := by
  induction l with
  | nil => simp [cnt]
  | cons y l ih =>
    simp only [cnt, List.length_cons]
    split <;> omega
/-- a list of the values of a function at 0, 1, .. -/
def tab (f : Nat → Int) (m : Nat) : List Int := (List.range' 0 m).map f
theorem tab_length (f : Nat → Int) (m : Nat) : (tab f m).length = m := by simp [tab]
theorem tab_get (f : Nat → Int) (m i : Nat) (h : i < (tab f m).length) : (tab f m)[i] = f i := by simp [tab]
theorem tab_succ (f : Nat → Int) (m : Nat) : tab f (m + 1) = tab f m ++ [f m] := by simp [tab, List.range'_1_concat]
theorem tab_ext {f : Nat → Int} {m : Nat} {l : List Int} (hl : l.length = m) (h : ∀ i (hi : i < l.length), l[i] = f i) : l = tab f m := by
  refine List.ext_getElem (by rw [tab_length]; exact hl) fun i h1 h2 => ?_
  rw [tab_get, h]
theorem tab_congr {f g : Nat → Int} {m : Nat} (h : ∀ i, i < m → f i = g i) : tab f m = tab g m :=
  tab_ext (tab_length f m) fun i hi => by rw [tab_get]; exact h i (by rw [tab_length] at hi; exact hi)
theorem tab_set (f : Nat → Int) (m b : Nat) (x : Int) : (tab f m).set b x = tab (fun i => if i = b then x else f i) m := by
  refine tab_ext (by rw [List.length_set, tab_length]) fun i hi => ?_
  rw [List.getElem_set]
  by_cases e : b = i
  · subst e; simp
  · rw [if_neg e, if_neg (fun h => e h.symm), tab_get]
theorem tab_zero (m : Nat) : tab (fun _ => 0) m = List.replicate m 0 := (tab_ext (by simp) fun i hi => by simp).symm
end Go.Proofs.Ytjkgjmaldbmgmaa.Pure
end
section
namespace Go.Proofs.Ytjkgjmaldbmgmaa.Pure
open Go.RowKit Go.Proofs.Ytjkgjmaldbmgmaa.P Go.Proofs.YtjkgjmaldbmgmaaW.PrintWords Go.Proofs.YtjkgjmaldbmgmaaW.PrintLast Go.Proofs.YtjkgjmaldbmgmaaW.PrintMore
set_option linter.unusedVariables false
set_option linter.unusedSimpArgs false
theorem ev_pos {α : Type} {c : Prop} [Decidable c] {A B : Nat → Option α} {r : α} (h : c) (e : Ev A r) : Ev (fun n => if c then A n else B n) r := Ev.congr (fun n => if_pos h) e
theorem ev_neg {α : Type} {c : Prop} [Decidable c] {A B : Nat → Option α} {r : α} (h : ¬ c) (e : Ev B r) : Ev (fun n => if c then A n else B n) r := Ev.congr (fun n => if_neg h) e
theorem ev_now {α : Type} (r : α) : Ev (fun _ => some r) r := Ev.now r
theorem ev_is {α : Type} {g : Option α} {r : α} (h : g = some r) : Ev (fun _ => g) r := by subst h; exact Ev.now r
theorem ev_bind {α β : Type} {g : Nat → Option α} {f : Nat → α → Option β} {a : α} {r : β} (h : Ev g a) (k : Ev (fun n => f n a) r) : Ev (fun n => (g n).bind (f n)) r := Ev.bind h k
theorem ev_fix {α β : Type} {g : Option α} {f : Nat → α → Option β} {a : α} {r : β} (h : g = some a) (k : Ev (fun n => f n a) r) : Ev (fun n => g.bind (f n)) r := by subst h; exact k
theorem ev_rounds {α : Type} {g : Nat → Option α} {r : α} (h : Ev g r) : ∃ k, g k = some r := h.rounds
theorem wrap_id {x : Int} (h1 : -9223372036854775808 ≤ x) (h2 : x ≤ 9223372036854775807) : wrap64 x = x := by unfold wrap64; omega
theorem wrap_succ {n : Nat} (h : n + 1 ≤ 9223372036854775807) : wrap64 ((n : Int) + 1) = ((n + 1 : Nat) : Int) := by rw [wrap_id (by omega) (by omega)]; omega
theorem rd_nat {l : List Int} {n : Nat} (h : n < l.length) : rd l (n : Int) = l[n] := by simp [rd, h]
end Go.Proofs.Ytjkgjmaldbmgmaa.Pure
end
section
namespace Go.Proofs.Ytjkgjmaldbmgmaa.Pure
open Go.RowKit Go.Proofs.Ytjkgjmaldbmgmaa.P Go.Proofs.YtjkgjmaldbmgmaaW.PrintWords Go.Proofs.YtjkgjmaldbmgmaaW.PrintLast Go.Proofs.YtjkgjmaldbmgmaaW.PrintMore
set_option linter.unusedVariables false
set_option linter.unusedSimpArgs false
/-- the greatest of a list, and 0 -/
def great (l : List Int) : Int := l.foldl mx 0
theorem le_mx (a b : Int) : a ≤ mx a b ∧ b ≤ mx a b := by unfold mx; split <;> omega
theorem le_foldl_mx (l : List Int) : ∀ a, a ≤ l.foldl mx a ∧ ∀ x ∈ l, x ≤ l.foldl mx a := by
  induction l with
  | nil => intro a; simp
  | cons y l ih =>
    intro a
    have h := ih (mx a y)
    have h2 := le_mx a y
    simp only [List.foldl_cons]
    refine ⟨by omega, ?_⟩
    intro x hx
    rcases List.mem_cons.1 hx with rfl | hx
    · omega
    · exact h.2 x hx
theorem great_take_succ (l : List Int) (n : Nat) (h : n < l.length) : great (l.take (n + 1)) = mx (great (l.take n)) l[n] := by
  rw [List.take_succ_eq_append_getElem h, great, List.foldl_append]; rfl
theorem great_pos {l : List Int} {x : Int} (h : x ∈ l) : x ≤ great l := (le_foldl_mx l 0).2 x h
end Go.Proofs.Ytjkgjmaldbmgmaa.Pure
end
section
namespace Go.Proofs.Ytjkgjmaldbmgmaa.Pure
open Go.RowKit Go.Proofs.Ytjkgjmaldbmgmaa.P Go.Proofs.YtjkgjmaldbmgmaaW.PrintWords Go.Proofs.YtjkgjmaldbmgmaaW.PrintLast Go.Proofs.YtjkgjmaldbmgmaaW.PrintMore
set_option linter.unusedVariables false
set_option linter.unusedSimpArgs false
theorem Index_l0 (l : List Int) (x : Int) (hl : l.length ≤ 9223372036854775807) : ∀ d n : Nat, n + d = l.length → (∀ y ∈ l.take n, y ≠ x) → Ev (fun k => slices_Index_Sint64_int64.l0 k l x (l.length : Int) (n : Int)) (if x ∈ l then (l.idxOf x : Int) else -1) := by
  intro d
  induction d with
  | zero =>
    intro n hn hno
    refine Ev.step (fun k => by rw [slices_Index_Sint64_int64.l0]) (ev_neg (by omega) (ev_is ?_))
    rw [List.take_of_length_le (by omega)] at hno
    rw [if_neg (fun h => hno x h rfl)]
  | succ d ih =>
    intro n hn hno
    have hlt : n < l.length := by omega
    refine Ev.step (fun k => by rw [slices_Index_Sint64_int64.l0]) (ev_pos (by omega) (ev_pos (by omega) (ev_pos (by omega) ?_)))
    rw [rd_nat hlt]
    by_cases h : x = l[n]
    · refine ev_pos h (ev_is ?_)
      rw [if_pos (h ▸ List.getElem_mem hlt)]
      congr 2
      symm
      rw [List.idxOf, List.findIdx_eq hlt]
      refine ⟨by simp [h], fun j hj => ?_⟩
      have := hno l[j] (List.mem_take_iff_getElem.2 ⟨j, by omega, rfl⟩)
      simpa using this
    · refine ev_neg h ?_
      rw [wrap_succ (by omega)]
      refine ih (n + 1) (by omega) ?_
      rw [List.take_succ_eq_append_getElem hlt]
      intro y hy
      rcases List.mem_append.1 hy with hy | hy
      · exact hno y hy
      · rw [List.mem_singleton.1 hy]; exact fun e => h e.symm
theorem Index_ev (l : List Int) (x : Int) (hl : l.length ≤ 9223372036854775807) : Ev (fun k => slices_Index_Sint64_int64.f k l x) (if x ∈ l then (l.idxOf x : Int) else -1) := by
  unfold slices_Index_Sint64_int64.f
  exact Index_l0 l x hl l.length 0 (by omega) (by simp)
theorem Contains_ev (l : List Int) (x : Int) (hl : l.length ≤ 9223372036854775807) : Ev (fun k => slices_Contains_Sint64_int64.f k l x) (l.contains x) := by
  unfold slices_Contains_Sint64_int64.f
  refine ev_bind (Index_ev l x hl) (ev_is ?_)
  by_cases h : x ∈ l
  · rw [if_pos h, List.contains_eq_mem, decide_eq_true h]; simp
  · rw [if_neg h, List.contains_eq_mem, decide_eq_false h]; simp
end Go.Proofs.Ytjkgjmaldbmgmaa.Pure
end
section
namespace Go.Proofs.Ytjkgjmaldbmgmaa.Pure
open Go.RowKit Go.Proofs.Ytjkgjmaldbmgmaa.P Go.Proofs.YtjkgjmaldbmgmaaW.PrintWords Go.Proofs.YtjkgjmaldbmgmaaW.PrintLast Go.Proofs.YtjkgjmaldbmgmaaW.PrintMore
set_option linter.unusedVariables false
set_option linter.unusedSimpArgs false
theorem l01In_f (n lo hi : Int) : spec_l01In.f n lo hi = some (decide (lo ≤ n ∧ n ≤ hi)) := by
  unfold spec_l01In.f
  by_cases h : n ≥ lo
  · rw [if_pos h]; simp [show lo ≤ n from h]
  · rw [if_neg h]; simp [show ¬ lo ≤ n from h]
theorem all_take_succ {α : Type} (p : α → Bool) (l : List α) (n : Nat) (h : n < l.length) : (l.take (n + 1)).all p = ((l.take n).all p && p l[n]) := by
  rw [List.take_succ_eq_append_getElem h, List.all_append]; simp
theorem all_false_at {α : Type} (p : α → Bool) (l : List α) (n : Nat) (h : n < l.length) (hp : p l[n] = false) : l.all p = false := by
  rw [Bool.eq_false_iff]
  intro ha
  rw [List.all_eq_true] at ha
  rw [ha _ (List.getElem_mem h)] at hp
  cases hp
end Go.Proofs.Ytjkgjmaldbmgmaa.Pure
end
section
namespace Go.Proofs.Ytjkgjmaldbmgmaa.Pure
open Go.RowKit Go.Proofs.Ytjkgjmaldbmgmaa.P Go.Proofs.YtjkgjmaldbmgmaaW.PrintWords Go.Proofs.YtjkgjmaldbmgmaaW.PrintLast Go.Proofs.YtjkgjmaldbmgmaaW.PrintMore
set_option linter.unusedVariables false
set_option linter.unusedSimpArgs false
def isTurns (l : List Int) (k : Int) : Bool := decide (1 ≤ (l.length : Int) ∧ (l.length : Int) ≤ 120) && l.all fun i => decide (-1 ≤ i ∧ i ≤ wrap64 (k - 1))
theorem areTurns_f (l : List Int) (k : Int) : impl_areTurns.f l k = some (isTurns l k) := rfl
theorem l01Turns_l0 (l : List Int) (m : Int) (hl : l.length ≤ 9223372036854775807) : ∀ d n : Nat, n + d = l.length → (l.take n).all (fun i => decide (-1 ≤ i ∧ i ≤ wrap64 (m - 1))) = true → Ev (fun k => spec_l01Turns.l0 k l m (n : Int)) (isTurns l m) := by
  intro d
  induction d with
  | zero =>
    intro n hn ha
    refine Ev.step (fun k => by rw [spec_l01Turns.l0]) ?_
    refine ev_neg (by omega) (ev_fix (l01In_f _ _ _) ?_)
    rw [List.take_of_length_le (by omega)] at ha
    refine ev_is ?_
    rw [isTurns, ha, Bool.and_true]
  | succ d ih =>
    intro n hn ha
    have hlt : n < l.length := by omega
    refine Ev.step (fun k => by rw [spec_l01Turns.l0]) ?_
    refine ev_pos (by omega) (ev_pos (by omega) (ev_fix (l01In_f _ _ _) ?_))
    rw [rd_nat hlt]
    cases hq : decide (-1 ≤ l[n] ∧ l[n] ≤ wrap64 (m - 1)) with
    | true =>
      refine ev_pos rfl ?_
      rw [wrap_succ (by omega)]
      exact ih (n + 1) (by omega) (by rw [all_take_succ _ _ _ hlt, ha, hq]; rfl)
    | false =>
      refine ev_neg (by simp) (ev_is ?_)
      rw [isTurns, all_false_at _ l n hlt hq, Bool.and_false]
theorem l01Turns_ev (l : List Int) (m : Int) (hl : l.length ≤ 9223372036854775807) : Ev (fun k => spec_l01Turns.f k l m) (isTurns l m) := by
  unfold spec_l01Turns.f
  exact l01Turns_l0 l m hl l.length 0 (by omega) (by simp)
theorem isTurns_len {l : List Int} {k : Int} (h : isTurns l k = true) : 1 ≤ l.length ∧ l.length ≤ 120 := by
  rw [isTurns, Bool.and_eq_true] at h
  have := of_decide_eq_true h.1
  omega
theorem isTurns_mem {l : List Int} {k : Int} (h : isTurns l k = true) {x : Int} (hx : x ∈ l) : -1 ≤ x ∧ x ≤ wrap64 (k - 1) := by
  rw [isTurns, Bool.and_eq_true, List.all_eq_true] at h
  exact of_decide_eq_true (h.2 x hx)
end Go.Proofs.Ytjkgjmaldbmgmaa.Pure
end
section
namespace Go.Proofs.Ytjkgjmaldbmgmaa.Pure
open Go.RowKit Go.Proofs.Ytjkgjmaldbmgmaa.P Go.Proofs.YtjkgjmaldbmgmaaW.PrintWords Go.Proofs.YtjkgjmaldbmgmaaW.PrintLast Go.Proofs.YtjkgjmaldbmgmaaW.PrintMore
set_option linter.unusedVariables false
set_option linter.unusedSimpArgs false
def sharesL (l : List Int) : List Int := tab (fun i => cnt (i : Int) l) (great l + 1).toNat
def levelR (l : List Int) : Int := if isTurns l 8 = true then (if l.contains (-1) = true then 5 else if (sharesL l).contains 0 = true then 5 else if (l.length : Int) > 60 then 5 else 0) else 2
theorem rd_tab {f : Nat → Int} {m i : Nat} (h : i < m) : rd (tab f m) (i : Int) = f i := by
  rw [rd_nat (by rw [tab_length]; exact h), tab_get]
theorem isTurns8_mem {l : List Int} (h : isTurns l 8 = true) {x : Int} (hx : x ∈ l) : -1 ≤ x ∧ x ≤ 7 := by
  have h1 := isTurns_mem h hx
  rw [wrap_id (by omega) (by omega)] at h1
  omega
theorem great_nonneg (l : List Int) : 0 ≤ great l := (le_foldl_mx l 0).1
theorem great_le {l : List Int} {b : Int} (hb : 0 ≤ b) (h : ∀ x ∈ l, x ≤ b) : great l ≤ b := by
  have : ∀ (m : List Int) (a : Int), a ≤ b → (∀ x ∈ m, x ≤ b) → m.foldl mx a ≤ b := by
    intro m
    induction m with
    | nil => intro a ha _; exact ha
    | cons y m ih =>
      intro a ha hm
      refine ih _ ?_ fun x hx => hm x (List.mem_cons_of_mem _ hx)
      have := hm y List.mem_cons_self
      unfold mx; split <;> omega
  exact this l 0 hb h
theorem contains_false {l : List Int} {x : Int} (h : l.contains x = false) : x ∉ l := by
  intro hx
  rw [List.contains_iff_mem.2 hx] at h
  exact absurd h (by simp)
structure Level (l : List Int) : Prop where
  turns : isTurns l 8 = true
  len : 1 ≤ l.length ∧ l.length ≤ 60
  mem : ∀ x ∈ l, 0 ≤ x ∧ x ≤ 7
  top : 0 ≤ great l ∧ great l ≤ 7
  pos : ∀ i : Nat, (i : Int) ≤ great l → 1 ≤ cnt i l
theorem levelR_zero {l : List Int} (h : levelR l = 0) : Level l := by
  unfold levelR at h
  split at h
  · next h1 =>
    split at h
    · omega
    · next h2 =>
      split at h
      · omega
      · next h3 =>
        split at h
        · omega
        · next h4 =>
          have hm : ∀ x ∈ l, 0 ≤ x ∧ x ≤ 7 := fun x hx => by
            have := isTurns8_mem h1 hx
            have : x ≠ -1 := fun e => contains_false (Bool.eq_false_iff.2 h2) (e ▸ hx)
            omega
          have hg := great_nonneg l
          refine ⟨h1, by have := isTurns_len h1; omega, hm, ⟨hg, great_le (by omega) fun x hx => (hm x hx).2⟩, fun i hi => ?_⟩
          have h0 := contains_false (Bool.eq_false_iff.2 h3)
          have hlt : i < (sharesL l).length := by rw [sharesL, tab_length]; omega
          have h5 : (sharesL l)[i] = cnt i l := by simp only [sharesL]; exact tab_get _ _ _ _
          have h6 : cnt (i : Int) l ≠ 0 := fun e => h0 (by rw [← e, ← h5]; exact List.getElem_mem hlt)
          have := (cnt_bounds (i : Int) l).1
          omega
  · omega
theorem share_l0 (l : List Int) (x : Int) (hl : l.length ≤ 1048576) : ∀ d n : Nat, n + d = l.length →
    Ev (fun k => impl_share.l0 k x (cnt x (l.take n)) l (l.length : Int) (n : Int)) (cnt x l) := by
  intro d
  induction d with
  | zero =>
    intro n hn
    rw [List.take_of_length_le (by omega)]
    exact Ev.step (fun k => by rw [impl_share.l0]) (ev_neg (by omega) (ev_now _))
  | succ d ih =>
    intro n hn
    have hlt : n < l.length := by omega
    have hb := cnt_bounds x (l.take n)
    rw [List.length_take] at hb
    have ih := ih (n + 1) (by omega)
    rw [cnt_take_succ x l n hlt] at ih
    refine Ev.step (fun k => by rw [impl_share.l0]) (ev_pos (by omega) (ev_pos (by omega) (ev_pos (by omega) ?_)))
    rw [rd_nat hlt, wrap_succ (by omega)]
    by_cases c : l[n] = x
    · rw [if_pos c] at ih
      refine ev_pos c ?_
      rw [wrap_id (by omega) (by omega)]
      exact ih
    · rw [if_neg c, Int.add_zero] at ih
      exact ev_neg c ih
theorem share_ev (l : List Int) (x : Int) (hl : l.length ≤ 1048576) : Ev (fun k => impl_share.f k l x) (cnt x l) := by
  unfold impl_share.f
  exact share_l0 l x hl l.length 0 (by omega)
theorem Max_l0 (l : List Int) (hl : l.length ≤ 1048576) (a : Int) : ∀ d n : Nat, n + d = l.length →
    Ev (fun k => slices_Max_Sint64_int64.l0 k l ((l.take n).foldl mx a) (n : Int)) (l.foldl mx a) := by
  intro d
  induction d with
  | zero =>
    intro n hn
    rw [List.take_of_length_le (by omega)]
    exact Ev.step (fun k => by rw [slices_Max_Sint64_int64.l0]) (ev_neg (by omega) (ev_now _))
  | succ d ih =>
    intro n hn
    have hlt : n < l.length := by omega
    refine Ev.step (fun k => by rw [slices_Max_Sint64_int64.l0]) (ev_pos (by omega) (ev_pos (by omega) ?_))
    rw [rd_nat hlt, wrap_succ (by omega)]
    have ih := ih (n + 1) (by omega)
    rw [List.take_succ_eq_append_getElem hlt, List.foldl_append] at ih
    exact ih
theorem mx_self (a : Int) : mx a a = a := by unfold mx; split <;> rfl
theorem Max_ev (l : List Int) (hl : l.length ≤ 1048576) (h0 : 1 ≤ l.length) (hp : ∀ x ∈ l, 0 ≤ x) : Ev (fun k => slices_Max_Sint64_int64.f k l) (great l) := by
  unfold slices_Max_Sint64_int64.f
  refine ev_neg (by omega) (ev_pos (by omega) ?_)
  cases l with
  | nil => simp at h0
  | cons y l =>
    have hy := hp y List.mem_cons_self
    have h1 := Max_l0 (y :: l) hl y l.length 1 (by simp only [List.length_cons]; omega)
    have e0 : great (y :: l) = (y :: l).foldl mx y := by
      have : mx 0 y = y := by unfold mx; split <;> omega
      simp only [great, List.foldl_cons, this, mx_self]
    have e1 : ((y :: l).take 1).foldl mx y = y := by simp [mx_self]
    rw [e1, ← e0] at h1
    exact h1
theorem sharesOf_l0 (l : List Int) (hl : l.length ≤ 1048576) (M : Nat) (hM : M ≤ 1000) : ∀ d n : Nat, n + d = M →
    Ev (fun k => impl_sharesOf.l0 k l (tab (fun i => cnt (i : Int) l) n) (M : Int) (n : Int)) (tab (fun i => cnt (i : Int) l) M) := by
  intro d
  induction d with
  | zero =>
    intro n hn
    obtain rfl : n = M := by omega
    exact Ev.step (fun k => by rw [impl_sharesOf.l0]) (ev_neg (by omega) (ev_now _))
  | succ d ih =>
    intro n hn
    have ih := ih (n + 1) (by omega)
    rw [tab_succ] at ih
    refine Ev.step (fun k => by rw [impl_sharesOf.l0]) ?_
    refine ev_pos (by omega) (ev_bind (share_ev l _ hl) (ev_pos (by rw [tab_length]; omega) ?_))
    rw [wrap_succ (by omega)]
    exact ih
theorem sharesOf_ev (l : List Int) (hl : l.length ≤ 1048576) (h0 : 1 ≤ l.length) (hp : ∀ x ∈ l, 0 ≤ x ∧ x ≤ 7) : Ev (fun k => impl_sharesOf.f k l) (sharesL l) := by
  unfold impl_sharesOf.f
  have hg := great_nonneg l
  have hg2 := great_le (l := l) (b := 7) (by omega) fun x hx => (hp x hx).2
  refine ev_bind (Max_ev l hl h0 fun x hx => (hp x hx).1) ?_
  rw [wrap_id (by omega) (by omega), show great l + 1 = ((great l + 1).toNat : Int) by omega]
  exact sharesOf_l0 l hl (great l + 1).toNat (by omega) (great l + 1).toNat 0 (by omega)
theorem levelCode_ev (l : List Int) (hl : l.length ≤ 1048576) : Ev (fun k => impl_levelCode.f k l) (levelR l) := by
  unfold impl_levelCode.f levelR
  refine ev_fix (areTurns_f l 8) ?_
  cases ht : isTurns l 8 with
  | false => exact ev_neg (by simp) (ev_is (by simp))
  | true =>
    rw [if_pos rfl]
    have hlen := isTurns_len ht
    refine ev_pos rfl (ev_bind (Contains_ev l (-1) (by omega)) ?_)
    cases hc : l.contains (-1) with
    | true => exact ev_pos rfl (ev_is (by simp))
    | false =>
      show Ev _ (if (sharesL l).contains 0 = true then 5 else if (l.length : Int) > 60 then 5 else 0)
      have hm : ∀ x ∈ l, 0 ≤ x ∧ x ≤ 7 := fun x hx => by
        have := isTurns8_mem ht hx
        have : x ≠ -1 := fun e => contains_false hc (e ▸ hx)
        omega
      have hg := great_le (l := l) (b := 7) (by omega) fun x hx => (hm x hx).2
      refine ev_neg (by simp) (ev_bind (sharesOf_ev l hl hlen.1 hm) (ev_bind (Contains_ev (sharesL l) 0 (by rw [sharesL, tab_length]; omega)) ?_))
      cases hz : (sharesL l).contains 0 with
      | true => exact ev_pos rfl (ev_now _)
      | false =>
        show Ev _ (if (l.length : Int) > 60 then 5 else 0)
        refine ev_neg (by simp) ?_
        by_cases h60 : (l.length : Int) > 60
        · exact ev_pos h60 (ev_is (by rw [if_pos h60]))
        · exact ev_neg h60 (ev_is (by rw [if_neg h60]))
end Go.Proofs.Ytjkgjmaldbmgmaa.Pure
end
section
namespace Go.Proofs.Ytjkgjmaldbmgmaa.Pure
set_option linter.unusedVariables false
set_option linter.unusedSimpArgs false
theorem tmod_nat (m n : Nat) : Int.tmod (m : Int) (n : Int) = ((m % n : Nat) : Int) := rfl
end Go.Proofs.Ytjkgjmaldbmgmaa.Pure
end
section
namespace Go.Proofs.Ytjkgjmaldbmgmaa.Pure
open Go.RowKit Go.Proofs.Ytjkgjmaldbmgmaa.P Go.Proofs.YtjkgjmaldbmgmaaW.PrintWords Go.Proofs.YtjkgjmaldbmgmaaW.PrintLast Go.Proofs.YtjkgjmaldbmgmaaW.PrintMore
set_option linter.unusedVariables false
set_option linter.unusedSimpArgs false
def win (l : List Int) (i : Int) (fr : Nat) : Nat → Int
  | 0 => 0
  | j + 1 => win l i fr j + (if rd l (((fr + j) % l.length : Nat) : Int) = i then 1 else 0)
theorem win_bounds (l : List Int) (i : Int) (fr : Nat) : ∀ j, 0 ≤ win l i fr j ∧ win l i fr j ≤ j := by
  intro j
  induction j with
  | zero => simp [win]
  | succ j ih => simp only [win]; split <;> omega
def lohi (l : List Int) (i : Int) (len : Nat) : Nat → Nat → Int → Int → Int × Int
  | 0, _, lo, hi => (lo, hi)
  | d + 1, fr, lo, hi => lohi l i len d (fr + 1) (mn lo (win l i fr len)) (mx hi (win l i fr len))
def balLen (l : List Int) (i : Int) : Nat → Nat → Bool
  | 0, _ => true
  | d + 1, len => if (lohi l i len l.length 0 l.length 0).2 - (lohi l i len l.length 0 l.length 0).1 > 1 then false else balLen l i d (len + 1)
def balTask (l : List Int) : Nat → Nat → Bool
  | 0, _ => true
  | d + 1, i => if balLen l i (l.length - 1) 1 = true then balTask l d (i + 1) else false
theorem Bal_l3 (l : List Int) (hl : l.length ≤ 60) (i a b : Int) (len fr : Nat) (hlen : len < l.length) (hfr : fr < l.length) (lo hi : Int) (R : Bool × Int)
    (hR : Ev (fun k => spec_AreBalanced.l2 k l (l.length : Int) i (len : Int) (mn lo (win l i fr len)) (mx hi (win l i fr len)) ((fr + 1 : Nat) : Int) a b) R) : ∀ d j : Nat, j + d = len →
    Ev (fun k => spec_AreBalanced.l3 k l (l.length : Int) i (len : Int) lo hi (fr : Int) (win l i fr j) (j : Int) a b) R := by
  intro d
  induction d with
  | zero =>
    intro j hj
    obtain rfl : j = len := by omega
    refine Ev.step (fun k => by rw [spec_AreBalanced.l3]) ?_
    rw [wrap_succ (n := fr) (by omega)]
    exact ev_neg (by omega) hR
  | succ d ih =>
    intro j hj
    have ih := ih (j + 1) (by omega)
    have hw := win_bounds l i fr j
    have hmod : (fr + j) % l.length < l.length := Nat.mod_lt _ (by omega)
    rw [win] at ih
    refine Ev.step (fun k => by rw [spec_AreBalanced.l3]) ?_
    rw [wrap_id (x := (fr : Int) + j) (by omega) (by omega), show (fr : Int) + (j : Int) = ((fr + j : Nat) : Int) by omega, tmod_nat, wrap_succ (by omega)]
    refine ev_pos (by omega) (ev_neg (by omega) (ev_pos (by omega) (ev_pos (by omega) ?_)))
    by_cases c : rd l (((fr + j) % l.length : Nat) : Int) = i
    · rw [if_pos c] at ih
      refine ev_pos c ?_
      rw [wrap_id (by omega) (by omega)]
      exact ih
    · rw [if_neg c, Int.add_zero] at ih
      exact ev_neg c ih
theorem Bal_l2 (l : List Int) (hl : l.length ≤ 60) (i a b : Int) (len : Nat) (hlen : len < l.length) (R : Bool × Int) : ∀ d fr : Nat, fr + d = l.length → ∀ lo hi : Int, (0 ≤ lo ∧ lo ≤ l.length) → (0 ≤ hi ∧ hi ≤ l.length) →
    ((lohi l i len d fr lo hi).2 - (lohi l i len d fr lo hi).1 > 1 → R = (false, 0)) →
    (¬ (lohi l i len d fr lo hi).2 - (lohi l i len d fr lo hi).1 > 1 → Ev (fun k => spec_AreBalanced.l1 k l (l.length : Int) i ((len + 1 : Nat) : Int) a b) R) →
    Ev (fun k => spec_AreBalanced.l2 k l (l.length : Int) i (len : Int) lo hi (fr : Int) a b) R := by
  intro d
  induction d with
  | zero =>
    intro fr hfr lo hi h1 h2 h3 h4
    simp only [lohi] at h3 h4
    refine Ev.step (fun k => by rw [spec_AreBalanced.l2]) ?_
    rw [wrap_id (x := hi - lo) (by omega) (by omega), wrap_succ (by omega)]
    refine ev_neg (by omega) ?_
    by_cases c : hi - lo > 1
    · exact ev_pos c (ev_is (by rw [h3 c]))
    · exact ev_neg c (h4 c)
  | succ d ih =>
    intro fr hfr lo hi h1 h2 h3 h4
    have hw := win_bounds l i fr len
    refine Ev.step (fun k => by rw [spec_AreBalanced.l2]) ?_
    refine ev_pos (by omega) (Bal_l3 l hl i a b len fr hlen (by omega) lo hi R ?_ len 0 (by omega))
    refine ih (fr + 1) (by omega) _ _ ?_ ?_ h3 h4
    · unfold mn; split <;> omega
    · unfold mx; split <;> omega
theorem Bal_l1 (l : List Int) (hl : l.length ≤ 60) (i a b : Int) (hb : 0 ≤ b ∧ b ≤ 100) (R : Bool × Int) : ∀ d len : Nat, len + d = l.length →
    (balLen l i d len = true → Ev (fun k => spec_AreBalanced.l0 k l (l.length : Int) a (b + 1)) R) → (balLen l i d len = false → R = (false, 0)) →
    Ev (fun k => spec_AreBalanced.l1 k l (l.length : Int) i (len : Int) a b) R := by
  intro d
  induction d with
  | zero =>
    intro len hlen h1 h2
    refine Ev.step (fun k => by rw [spec_AreBalanced.l1]) ?_
    rw [wrap_id (x := b + 1) (by omega) (by omega)]
    exact ev_neg (by omega) (h1 rfl)
  | succ d ih =>
    intro len hlen h1 h2
    refine Ev.step (fun k => by rw [spec_AreBalanced.l1]) ?_
    refine ev_pos (by omega) (Bal_l2 l hl i a b len (by omega) R l.length 0 (by omega) _ _ (by omega) (by omega) ?_ ?_)
    · intro c
      exact h2 (by rw [balLen, if_pos c])
    · intro c
      rw [balLen, if_neg c] at h1 h2
      exact ih (len + 1) (by omega) h1 h2
theorem Bal_l0 (l : List Int) (hl : 1 ≤ l.length ∧ l.length ≤ 60) (m : Nat) (hm : m ≤ 100) : ∀ d i : Nat, i + d = m →
    Ev (fun k => spec_AreBalanced.l0 k l (l.length : Int) (m : Int) (i : Int)) (balTask l d i, 0) := by
  intro d
  induction d with
  | zero =>
    intro i hi
    refine Ev.step (fun k => by rw [spec_AreBalanced.l0]) ?_
    exact ev_neg (by omega) (ev_now _)
  | succ d ih =>
    intro i hi
    refine Ev.step (fun k => by rw [spec_AreBalanced.l0]) ?_
    refine ev_pos (by omega) (Bal_l1 l hl.2 i m i (by omega) _ (l.length - 1) 1 (by omega) ?_ ?_)
    · intro c
      rw [balTask, if_pos c]
      exact ih (i + 1) (by omega)
    · intro c
      rw [balTask, if_neg (by rw [c]; simp)]
theorem twice_get (l : List Int) (j : Nat) (h : j < (l ++ l).length) : (l ++ l)[j] = rd l ((j % l.length : Nat) : Int) := by
  rw [List.length_append] at h
  have hm : j % l.length < l.length := Nat.mod_lt _ (by omega)
  rw [rd_nat hm]
  by_cases c : j < l.length
  · rw [List.getElem_append_left c]
    simp only [Nat.mod_eq_of_lt c]
  · rw [List.getElem_append_right (by omega)]
    have : j % l.length = j - l.length := by rw [Nat.mod_eq_sub_mod (by omega), Nat.mod_eq_of_lt (by omega)]
    simp only [this]
theorem cut_win (l : List Int) (i : Int) (fr : Nat) : ∀ len : Nat, fr + len ≤ l.length + l.length → cnt i (((l ++ l).take (fr + len)).drop fr) = win l i fr len := by
  intro len
  induction len with
  | zero => intro _; rw [Nat.add_zero, List.drop_of_length_le (by rw [List.length_take]; omega)]; rfl
  | succ len ih =>
    intro h
    have hlt : fr + len < (l ++ l).length := by rw [List.length_append]; omega
    rw [win, ← ih (by omega), ← Nat.add_assoc, List.take_succ_eq_append_getElem hlt, List.drop_append_of_le_length (by rw [List.length_take]; omega), cnt_append, twice_get]
    simp [cnt]
theorem isBal_l1 (l : List Int) (hl : l.length ≤ 60) (i : Int) (len : Nat) (hlen : 1 ≤ len ∧ len < l.length) (R : Bool) : ∀ d fr : Nat, fr + d = l.length → ∀ lo hi : Int, (0 ≤ lo ∧ lo ≤ l.length) → (0 ≤ hi ∧ hi ≤ l.length) →
    ((lohi l i len d fr lo hi).2 - (lohi l i len d fr lo hi).1 > 1 → R = false) →
    (¬ (lohi l i len d fr lo hi).2 - (lohi l i len d fr lo hi).1 > 1 → Ev (fun k => impl_isBalanced.l0 k i (l.length : Int) (l ++ l) ((len + 1 : Nat) : Int)) R) →
    Ev (fun k => impl_isBalanced.l1 k i (l.length : Int) (l ++ l) (len : Int) lo hi (l.length : Int) (fr : Int)) R := by
  intro d
  induction d with
  | zero =>
    intro fr hfr lo hi h1 h2 h3 h4
    simp only [lohi] at h3 h4
    refine Ev.step (fun k => by rw [impl_isBalanced.l1]) ?_
    rw [wrap_id (x := hi - lo) (by omega) (by omega), wrap_succ (n := len) (by omega)]
    refine ev_neg (by omega) ?_
    by_cases c : hi - lo > 1
    · exact ev_pos c (ev_is (by rw [h3 c]))
    · exact ev_neg c (h4 c)
  | succ d ih =>
    intro fr hfr lo hi h1 h2 h3 h4
    have hw := win_bounds l i fr len
    have hll : (l ++ l).length = l.length + l.length := List.length_append
    refine Ev.step (fun k => by rw [impl_isBalanced.l1]) ?_
    rw [wrap_id (x := (fr : Int) + len) (by omega) (by omega), show (fr : Int) + (len : Int) = ((fr + len : Nat) : Int) by omega, Int.toNat_natCast, Int.toNat_natCast, wrap_succ (n := fr) (by omega)]
    have hs := share_ev (((l ++ l).take (fr + len)).drop fr) i (by rw [List.length_drop, List.length_take]; omega)
    rw [cut_win l i fr len (by omega)] at hs
    refine ev_pos (by omega) (ev_pos (by omega) (ev_pos (by omega) (ev_pos (by omega) (ev_bind hs ?_))))
    refine ih (fr + 1) (by omega) _ _ ?_ ?_ h3 h4
    · unfold mn; split <;> omega
    · unfold mx; split <;> omega
theorem isBal_l0 (l : List Int) (hl : l.length ≤ 60) (i : Int) : ∀ d len : Nat, 1 ≤ len → len + d = l.length → Ev (fun k => impl_isBalanced.l0 k i (l.length : Int) (l ++ l) (len : Int)) (balLen l i d len) := by
  intro d
  induction d with
  | zero =>
    intro len h1 hlen
    refine Ev.step (fun k => by rw [impl_isBalanced.l0]) ?_
    exact ev_neg (by omega) (ev_now _)
  | succ d ih =>
    intro len h1 hlen
    refine Ev.step (fun k => by rw [impl_isBalanced.l0]) ?_
    refine ev_pos (by omega) (isBal_l1 l hl i len (by omega) _ l.length 0 (by omega) _ _ (by omega) (by omega) ?_ ?_)
    · intro c
      rw [balLen, if_pos c]
    · intro c
      rw [balLen, if_neg c]
      exact ih (len + 1) (by omega) (by omega)
end Go.Proofs.Ytjkgjmaldbmgmaa.Pure
end
section
namespace Go.Proofs.Ytjkgjmaldbmgmaa.Pure
set_option linter.unusedVariables false
set_option linter.unusedSimpArgs false
theorem mem_of_mem_take {α : Type} {l : List α} {n : Nat} {x : α} (h : x ∈ l.take n) : x ∈ l := List.mem_of_mem_take h
end Go.Proofs.Ytjkgjmaldbmgmaa.Pure
end
section
namespace Go.Proofs.Ytjkgjmaldbmgmaa.Pure
open Go.RowKit Go.Proofs.Ytjkgjmaldbmgmaa.P Go.Proofs.YtjkgjmaldbmgmaaW.PrintWords Go.Proofs.YtjkgjmaldbmgmaaW.PrintLast Go.Proofs.YtjkgjmaldbmgmaaW.PrintMore
set_option linter.unusedVariables false
set_option linter.unusedSimpArgs false
theorem Concat_l1 (ls : List (List Int)) : ∀ (d n : Nat) (x : List Int), n + d = ls.length → x ++ (ls.drop n).flatten ≠ [] → (x ++ (ls.drop n).flatten).length < 17592186044416 → ls.length ≤ 1048576 →
    Ev (fun k => slices_Concat_Sint64_int64.l1 k x ls (ls.length : Int) (n : Int)) (x ++ (ls.drop n).flatten) := by
  intro d
  induction d with
  | zero =>
    intro n x hn h0 h1 h2
    rw [List.drop_of_length_le (by omega)]
    refine Ev.step (fun k => by rw [slices_Concat_Sint64_int64.l1]) ?_
    exact ev_neg (by omega) (ev_is (by simp))
  | succ d ih =>
    intro n x hn h0 h1 h2
    have hlt : n < ls.length := by omega
    have e : ls.drop n = ls[n] :: ls.drop (n + 1) := List.drop_eq_getElem_cons hlt
    rw [e, List.flatten_cons, ← List.append_assoc] at h0 h1 ⊢
    have hr : rd_L1 ls (n : Int) = ls[n] := by simp [rd_L1, hlt]
    refine Ev.step (fun k => by rw [slices_Concat_Sint64_int64.l1]) ?_
    rw [hr, wrap_succ (by omega)]
    refine ev_pos (by omega) (ev_pos (by omega) (ev_pos (by omega) (ev_pos ?_ (ih (n + 1) _ (by omega) h0 h1 h2))))
    rw [List.length_append] at h1
    rw [List.length_append] at h1
    omega
theorem Concat_l0 (ls : List (List Int)) (h2 : ls.length ≤ 1048576) (h0 : ls.flatten ≠ []) (h1 : ls.flatten.length < 17592186044416) : ∀ d n : Nat, n + d = ls.length →
    Ev (fun k => slices_Concat_Sint64_int64.l0 k ls ((ls.take n).flatten.length : Int) ls (ls.length : Int) (n : Int)) ls.flatten := by
  intro d
  induction d with
  | zero =>
    intro n hn
    rw [List.take_of_length_le (by omega)]
    have hpos := List.length_pos_iff.2 h0
    refine Ev.step (fun k => by rw [slices_Concat_Sint64_int64.l0]) ?_
    refine ev_neg (by omega) (ev_fix (show slices_Grow_Sint64_int64.f [] (ls.flatten.length : Int) = some [] from if_pos ⟨rfl, by omega⟩) ?_)
    have := Concat_l1 ls ls.length 0 [] (by omega) (by simpa using h0) (by simpa using h1) h2
    simpa using this
  | succ d ih =>
    intro n hn
    have hlt : n < ls.length := by omega
    have hr : rd_L1 ls (n : Int) = ls[n] := by simp [rd_L1, hlt]
    have e : (ls.take (n + 1)).flatten = (ls.take n).flatten ++ ls[n] := by rw [List.take_succ_eq_append_getElem hlt, List.flatten_append]; simp
    have hle : ((ls.take n).flatten ++ ls[n]).length ≤ ls.flatten.length := by
      rw [← e]
      conv => rhs; rw [← List.take_append_drop (n + 1) ls, List.flatten_append, List.length_append]
      omega
    have ih := ih (n + 1) (by omega)
    rw [e] at ih
    rw [List.length_append] at hle ih
    refine Ev.step (fun k => by rw [slices_Concat_Sint64_int64.l0]) ?_
    rw [hr, wrap_succ (by omega), wrap_id (by omega) (by omega)]
    exact ev_pos (by omega) (ev_pos (by omega) (ev_pos (by omega) (ev_neg (by omega) ih)))
theorem Concat_ev (ls : List (List Int)) (h2 : ls.length ≤ 1048576) (h0 : ls.flatten ≠ []) (h1 : ls.flatten.length < 17592186044416) : Ev (fun k => slices_Concat_Sint64_int64.f k ls) ls.flatten := by
  unfold slices_Concat_Sint64_int64.f
  exact Concat_l0 ls h2 h0 h1 ls.length 0 (by omega)
end Go.Proofs.Ytjkgjmaldbmgmaa.Pure
end
section
namespace Go.Proofs.Ytjkgjmaldbmgmaa.Pure
open Go.RowKit Go.Proofs.Ytjkgjmaldbmgmaa.P Go.Proofs.YtjkgjmaldbmgmaaW.PrintWords Go.Proofs.YtjkgjmaldbmgmaaW.PrintLast Go.Proofs.YtjkgjmaldbmgmaaW.PrintMore
set_option linter.unusedVariables false
set_option linter.unusedSimpArgs false
theorem Shares_l2 (l s : List Int) (hl : l.length ≤ 1048576) (hs : s.length ≤ 1048576) : ∀ d n : Nat, n + d = s.length → (∀ x ∈ s.take n, x ≠ 0) →
    Ev (fun k => spec_l07Shares.l2 k l s (s.length : Int) (n : Int)) (if s.contains 0 = true then ([], false) else (s, decide ((l.length : Int) ≤ 60))) := by
  intro d
  induction d with
  | zero =>
    intro n hn ha
    rw [List.take_of_length_le (by omega)] at ha
    rw [if_neg (fun h => ha 0 (List.contains_iff_mem.1 h) rfl)]
    exact Ev.step (fun k => by rw [spec_l07Shares.l2]) (ev_neg (by omega) (ev_now _))
  | succ d ih =>
    intro n hn ha
    have hlt : n < s.length := by omega
    refine Ev.step (fun k => by rw [spec_l07Shares.l2]) (ev_pos (by omega) (ev_pos (by omega) (ev_pos (by omega) ?_)))
    rw [rd_nat hlt]
    by_cases c : s[n] = 0
    · rw [if_pos (List.contains_iff_mem.2 (c ▸ List.getElem_mem hlt))]
      exact ev_pos c (ev_now _)
    · refine ev_neg c ?_
      rw [wrap_succ (by omega)]
      refine ih (n + 1) (by omega) fun x hx => ?_
      rw [List.take_succ_eq_append_getElem hlt] at hx
      rcases List.mem_append.1 hx with hx | hx
      · exact ha x hx
      · rw [List.mem_singleton.1 hx]; exact c
theorem Shares_l1 (l : List Int) (hl : l.length ≤ 1048576) (hm : ∀ x ∈ l, 0 ≤ x ∧ x ≤ 7) (R : List Int × Bool) (hR : Ev (fun k => spec_l07Shares.l2 k l (sharesL l) ((sharesL l).length : Int) 0) R) : ∀ d n : Nat, n + d = l.length →
    Ev (fun k => spec_l07Shares.l1 k l (tab (fun i => cnt (i : Int) (l.take n)) (great l + 1).toNat) (n : Int)) R := by
  have hg := great_nonneg l
  intro d
  induction d with
  | zero =>
    intro n hn
    rw [List.take_of_length_le (by omega)]
    refine Ev.step (fun k => by rw [spec_l07Shares.l1]) ?_
    exact ev_neg (by omega) hR
  | succ d ih =>
    intro n hn
    have hlt : n < l.length := by omega
    have hx := hm _ (List.getElem_mem hlt)
    have hx2 := great_pos (List.getElem_mem hlt)
    refine Ev.step (fun k => by rw [spec_l07Shares.l1]) (ev_pos (by omega) (ev_pos (by omega) ?_))
    rw [rd_nat hlt]
    refine ev_pos (by omega) (ev_pos (by rw [tab_length]; omega) ?_)
    obtain ⟨b, hb⟩ : ∃ b : Nat, l[n] = b := ⟨l[n].toNat, by omega⟩
    have hcb := cnt_bounds (b : Int) (l.take n)
    rw [List.length_take] at hcb
    rw [hb, Int.toNat_natCast, rd_tab (by omega), wrap_id (by omega) (by omega), wrap_succ (by omega), tab_set]
    have ih := ih (n + 1) (by omega)
    rw [tab_congr (g := fun i => if i = b then cnt (b : Int) (l.take n) + 1 else cnt (i : Int) (l.take n)) (fun i hi => by
      rw [cnt_take_succ _ l n hlt, hb]
      by_cases e : i = b
      · subst e; rw [if_pos rfl, if_pos rfl]
      · rw [if_neg (by omega), if_neg e, Int.add_zero])] at ih
    exact ih
theorem Shares_l0 (l : List Int) (hl : l.length ≤ 1048576) (h7 : ∀ x ∈ l, x ≤ 7) : ∀ d n : Nat, n + d = l.length → (∀ x ∈ l.take n, 0 ≤ x) →
    Ev (fun k => spec_l07Shares.l0 k l (great (l.take n)) (n : Int)) (if (∀ x ∈ l, 0 ≤ x) then (if (sharesL l).contains 0 = true then ([], false) else (sharesL l, decide ((l.length : Int) ≤ 60))) else ([], false)) := by
  have hg := great_nonneg l
  have hg7 := great_le (l := l) (b := 7) (by omega) h7
  intro d
  induction d with
  | zero =>
    intro n hn ha
    rw [List.take_of_length_le (by omega)] at ha ⊢
    rw [if_pos ha]
    refine Ev.step (fun k => by rw [spec_l07Shares.l0]) (ev_neg (by omega) ?_)
    rw [wrap_id (by omega) (by omega)]
    refine ev_pos (by omega) (ev_pos (by omega) ?_)
    have hlen : (sharesL l).length ≤ 1048576 := by rw [sharesL, tab_length]; omega
    have h1 := Shares_l1 l hl (fun x hx => ⟨ha x hx, h7 x hx⟩) _ (Shares_l2 l (sharesL l) hl hlen (sharesL l).length 0 (by omega) (by simp)) l.length 0 (by omega)
    rw [show tab (fun i => cnt (i : Int) (l.take 0)) (great l + 1).toNat = List.replicate (great l + 1).toNat 0 by
      rw [← tab_zero]; exact tab_congr fun i _ => by simp [cnt]] at h1
    exact h1
  | succ d ih =>
    intro n hn ha
    have hlt : n < l.length := by omega
    refine Ev.step (fun k => by rw [spec_l07Shares.l0]) (ev_pos (by omega) (ev_pos (by omega) ?_))
    rw [rd_nat hlt]
    by_cases c : l[n] < 0
    · rw [if_neg (fun h => by have := h _ (List.getElem_mem hlt); omega)]
      exact ev_pos c (ev_now _)
    · refine ev_neg c ?_
      rw [wrap_succ (by omega), ← great_take_succ l n hlt]
      refine ih (n + 1) (by omega) fun x hx => ?_
      rw [List.take_succ_eq_append_getElem hlt] at hx
      rcases List.mem_append.1 hx with hx | hx
      · exact ha x hx
      · rw [List.mem_singleton.1 hx]; omega
theorem l07Given_ev (l : List Int) (hl : l.length ≤ 1048576) : Ev (fun k => spec_l07Given.f k l) (if levelR l = 0 then sharesL l else [], levelR l) := by
  unfold spec_l07Given.f
  refine ev_bind (l01Turns_ev l 8 (by omega)) ?_
  cases ht : isTurns l 8 with
  | false => exact ev_neg (by simp) (ev_is (by simp [levelR, ht]))
  | true =>
    have h7 : ∀ x ∈ l, x ≤ 7 := fun x hx => (isTurns8_mem ht hx).2
    refine ev_pos rfl (ev_bind (show Ev (fun k => spec_l07Shares.f k l) _ from Shares_l0 l hl h7 l.length 0 (by omega) (by simp)) ?_)
    by_cases hc : l.contains (-1) = true
    · have hr : levelR l = 5 := by unfold levelR; rw [if_pos ht, if_pos hc]
      have e : ¬ (∀ x ∈ l, 0 ≤ x) := fun h => by have := h _ (List.contains_iff_mem.1 hc); omega
      refine ev_neg (by rw [if_neg e]; simp) (ev_is (by rw [hr]; rfl))
    · have hc2 := Bool.eq_false_iff.2 hc
      have e : ∀ x ∈ l, 0 ≤ x := fun x hx => by
        have := isTurns8_mem ht hx
        have : x ≠ -1 := fun e => contains_false hc2 (e ▸ hx)
        omega
      by_cases hz : (sharesL l).contains 0 = true
      · have hr : levelR l = 5 := by unfold levelR; rw [if_pos ht, if_neg hc, if_pos hz]
        exact ev_neg (by rw [if_pos e, if_pos hz]; simp) (ev_is (by rw [hr]; rfl))
      · by_cases h60 : (l.length : Int) ≤ 60
        · have hr : levelR l = 0 := by unfold levelR; rw [if_pos ht, if_neg hc, if_neg hz, if_neg (by omega)]
          exact ev_pos (by rw [if_pos e, if_neg hz]; exact decide_eq_true h60) (ev_is (by rw [hr, if_pos e, if_neg hz]; rfl))
        · have hr : levelR l = 5 := by unfold levelR; rw [if_pos ht, if_neg hc, if_neg hz, if_pos (by omega)]
          exact ev_neg (by rw [if_pos e, if_neg hz]; simp only [decide_eq_false h60]; simp) (ev_is (by rw [hr]; rfl))
end Go.Proofs.Ytjkgjmaldbmgmaa.Pure
end
section
namespace Go.Proofs.Ytjkgjmaldbmgmaa.Pure
open Go.RowKit Go.Proofs.Ytjkgjmaldbmgmaa.P Go.Proofs.YtjkgjmaldbmgmaaW.PrintWords Go.Proofs.YtjkgjmaldbmgmaaW.PrintLast Go.Proofs.YtjkgjmaldbmgmaaW.PrintMore
set_option linter.unusedVariables false
set_option linter.unusedSimpArgs false
theorem toInt64S_l0 (l : List Int) (hl : l.length ≤ 9223372036854775807) : ∀ d n : Nat, n + d = l.length → Ev (fun k => laws_toInt64S.l0 k l (l.take n ++ List.replicate d 0) (n : Int)) l := by
  intro d
  induction d with
  | zero =>
    intro n hn
    refine Ev.step (fun k => by rw [laws_toInt64S.l0]) ?_
    refine ev_neg (by omega) ?_
    rw [List.take_of_length_le (by omega), List.replicate_zero, List.append_nil]
    exact ev_now l
  | succ d ih =>
    intro n hn
    have hlt : n < l.length := by omega
    refine Ev.step (fun k => by rw [laws_toInt64S.l0]) ?_
    refine ev_pos (by omega) (ev_pos (by omega) (ev_pos ?_ ?_))
    · rw [List.length_append, List.length_take, List.length_replicate]; omega
    · rw [wrap_succ (by omega), rd_nat hlt, Int.toNat_natCast]
      have e : (l.take n ++ List.replicate (d + 1) 0).set n l[n] = l.take (n + 1) ++ List.replicate d 0 := by
        rw [List.set_append_right _ _ (by rw [List.length_take]; omega), List.length_take, Nat.min_eq_left (by omega), Nat.sub_self, List.replicate_succ, List.set_cons_zero, List.take_succ_eq_append_getElem hlt, List.append_assoc]
        rfl
      rw [e]
      exact ih (n + 1) (by omega)
/-- toInt64S hands back the list. -/
theorem toInt64S_ev (l : List Int) (hl : l.length ≤ 35184372088832) : Ev (fun k => laws_toInt64S.f k l) l := by
  unfold laws_toInt64S.f
  refine ev_pos (by omega) (ev_pos (by omega) ?_)
  rw [Int.toNat_natCast]
  exact toInt64S_l0 l (by omega) l.length 0 (by omega)
theorem eqInt64S_l0 (l : List Int) (hl : l.length ≤ 9223372036854775807) : ∀ d n : Nat, n + d = l.length → Ev (fun k => laws_eqInt64S.l0 k l l (n : Int)) true := by
  intro d
  induction d with
  | zero =>
    intro n hn
    refine Ev.step (fun k => by rw [laws_eqInt64S.l0]) ?_
    exact ev_neg (by omega) (ev_now true)
  | succ d ih =>
    intro n hn
    refine Ev.step (fun k => by rw [laws_eqInt64S.l0]) ?_
    refine ev_pos (by omega) (ev_pos (by omega) (ev_pos (by omega) (ev_pos rfl ?_)))
    rw [wrap_succ (by omega)]
    exact ih (n + 1) (by omega)
/-- eqInt64S says that a list is itself. -/
theorem eqInt64S_ev (l : List Int) (hl : l.length ≤ 9223372036854775807) : Ev (fun k => laws_eqInt64S.f k l l) true := by
  unfold laws_eqInt64S.f
  exact ev_pos rfl (eqInt64S_l0 l hl l.length 0 (by omega))
end Go.Proofs.Ytjkgjmaldbmgmaa.Pure
end
section
namespace Go.Proofs.Ytjkgjmaldbmgmaa.Pure
open Go.RowKit Go.Proofs.Ytjkgjmaldbmgmaa.P Go.Proofs.YtjkgjmaldbmgmaaW.PrintWords Go.Proofs.YtjkgjmaldbmgmaaW.PrintLast Go.Proofs.YtjkgjmaldbmgmaaW.PrintMore
set_option linter.unusedVariables false
set_option linter.unusedSimpArgs false
def balR (l : List Int) : Bool × Int := if levelR l = 0 then (balTask l (great l + 1).toNat 0, 0) else (false, levelR l)
theorem AreBalanced_spec (l : List Int) (hl : l.length ≤ 1048576) : Ev (fun k => spec_AreBalanced.f k l) (balR l) := by
  unfold spec_AreBalanced.f balR
  refine ev_bind (l07Given_ev l hl) ?_
  by_cases h : levelR l = 0
  · have L := levelR_zero h
    have hg := L.top
    rw [if_pos h, if_pos h]
    refine ev_pos h ?_
    have := Bal_l0 l L.len (great l + 1).toNat (by omega) (great l + 1).toNat 0 (by omega)
    rw [show ((sharesL l).length : Int) = ((great l + 1).toNat : Int) by rw [sharesL, tab_length]]
    exact this
  · rw [if_neg h, if_neg h]
    exact ev_neg h (ev_now _)
theorem isBalanced_ev (l : List Int) (hl : 1 ≤ l.length ∧ l.length ≤ 60) (i : Int) : Ev (fun k => impl_isBalanced.f k l i) (balLen l i (l.length - 1) 1) := by
  unfold impl_isBalanced.f
  have hf : [l, l].flatten = l ++ l := by simp
  have hc := Concat_ev [l, l] (by simp) (by
    rw [hf]
    intro h
    have h2 : (l ++ l).length = 0 := by rw [h]; rfl
    rw [List.length_append] at h2
    omega) (by rw [hf, List.length_append]; omega)
  rw [hf] at hc
  refine ev_fix (show impl_length_int64.f l = some (l.length : Int) from rfl) (ev_bind hc ?_)
  exact isBal_l0 l hl.2 i (l.length - 1) 1 (by omega) (by omega)
theorem AreBal_l0 (l : List Int) (hl : 1 ≤ l.length ∧ l.length ≤ 60) (m : Nat) (hm : m ≤ 100) : ∀ d i : Nat, i + d = m →
    Ev (fun k => impl_AreBalanced.l0 k l (m : Int) (i : Int)) (balTask l d i, 0) := by
  intro d
  induction d with
  | zero =>
    intro i hi
    refine Ev.step (fun k => by rw [impl_AreBalanced.l0]) ?_
    exact ev_neg (by omega) (ev_now _)
  | succ d ih =>
    intro i hi
    refine Ev.step (fun k => by rw [impl_AreBalanced.l0]) ?_
    refine ev_pos (by omega) (ev_bind (isBalanced_ev l hl i) ?_)
    rw [balTask, wrap_succ (by omega)]
    cases h : balLen l i (l.length - 1) 1 with
    | true => exact ev_pos rfl (ih (i + 1) (by omega))
    | false => exact ev_neg (by simp) (ev_now _)
theorem AreBalanced_impl (l : List Int) (hl : l.length ≤ 1048576) : Ev (fun k => impl_AreBalanced.f k l) (balR l) := by
  unfold impl_AreBalanced.f balR
  refine ev_bind (levelCode_ev l hl) ?_
  by_cases h : levelR l = 0
  · have L := levelR_zero h
    have hg := L.top
    rw [if_pos h]
    refine ev_pos h (ev_bind (Max_ev l hl L.len.1 (fun x hx => (L.mem x hx).1)) ?_)
    rw [wrap_id (by omega) (by omega), show great l + 1 = ((great l + 1).toNat : Int) by omega]
    exact AreBal_l0 l L.len (great l + 1).toNat (by omega) (great l + 1).toNat 0 (by omega)
  · rw [if_neg h]
    exact ev_neg h (ev_now _)
theorem FnExactAreBalanced : laws_FnExactAreBalanced.Pure := by
  intro l _ _ _
  refine ev_rounds (g := fun k => laws_FnExactAreBalanced.f k l) ?_
  unfold laws_FnExactAreBalanced.f
  by_cases hl : l.length ≤ 1048576
  · refine ev_neg (by omega) (ev_bind (toInt64S_ev l (by omega)) (ev_bind (AreBalanced_spec l hl) (ev_bind (toInt64S_ev l (by omega)) (ev_bind (AreBalanced_impl l hl) ?_))))
    refine ev_neg (by simp) ?_
    rw [bne_self_eq_false]
    refine Ev.step (fun k => by rw [laws_FnExactAreBalanced.j0]) (ev_neg (by simp) ?_)
    exact ev_bind (toInt64S_ev l (by omega)) (ev_bind (eqInt64S_ev l (by omega)) (ev_pos rfl (ev_now true)))
  · exact ev_pos (by omega) (ev_now _)
end Go.Proofs.Ytjkgjmaldbmgmaa.Pure
end
section
namespace Go.Proofs.Ytjkgjmaldbmgmaa.fnExactAreBalanced
open Go.ChangeShapes Go.WideShapes Go.ChangeAt Go.RowKit
open Go.ChangeMaps (open_string shut_string)
set_option linter.unusedVariables false
theorem own : ownKnob Try.prog.godebug = none := by kernel_rfl
theorem laidOut : laidOutB Try.prog = true := by kernel_rfl
def IsRow (k : IntKind) (w : World) (a : Option Addr) (len cap : Nat) (zs : List Int) : Prop :=
  (a = none ∧ len = 0 ∧ cap = 0 ∧ zs = []) ∨
  ∃ x, a = some x ∧ len ≤ cap ∧ cap ≤ maxLen ∧ zs.length = cap ∧ (∀ i, i < zs.length → w.cell? (x.add i) = some (.int k (zs.getD i 0))) ∧ ∀ n ∈ zs, (Lit.int k n).wf = true
set_option maxRecDepth 100000 in
theorem lifted (os : Os) (started : os.Started) (H : Type) (enc : TypeId × Value → H) :
    ReturnsInHanded {} Try.checked os 3 .any (Rows.fnExactAreBalancedSpec.pre6 enc Try.prog Try.f3 Rows.fnExactAreBalancedRow.domain false) (Rows.fnExactAreBalancedSpec.post enc Try.prog Try.f3 false true false false) := by
  refine returnsInHanded_of_change_sized (C := Try.checked) own started (by kernel_rfl) Try.func3
    (ChangeSpec.witness6 (enc := enc) (C := Try.checked) false ⟨#[], #[.slice none 0 0], []⟩ 8 (by kernel_rfl) (by kernel_rfl) (by kernel_rfl) (by kernel_rfl)) ?_
  intro W base args ds gs before hval0 hW hcnd hsz0 _
  have hsz : (DataW.weightsEach Try.prog (Try.f3.params.toList ++ Rows.fnExactAreBalancedSpec.plain.varTypes Try.prog) (ds ++ gs)).all (· ≤ reachBytes) = true := hsz0
  have hval : ∀ (j : Nat) t v, Try.f3.params[j]? = some t → args[j]? = some v → Value.okWide Try.prog W .any base t v := hval0
  have hW' := hW
  obtain ⟨p, q, hA0, hV, rfl, hfz, hnd⟩ := hW
  have hA : DataW.TrodAll enc Try.prog W 0 (fun _ => true) true Try.f3.params.toList args.toList ds p := hA0
  rw [Try.params3] at hA hval hsz
  obtain ⟨v0, vs0, d0, ds0, p0, q0, hargs, rfl, rfl, h0, r0⟩ := trodAll_cons hA
  obtain ⟨rfl, rfl, rfl⟩ := trodAll_nil r0
  obtain rfl : args = #[v0] := by cases args; simp_all
  obtain ⟨rfl, rfl⟩ := trodVars_none hV
  obtain ⟨a0, len0, cap0, rfl⟩ := okWide_slice Try.underlying22 (hval 0 22 v0 rfl rfl)
  have k0 := h0
  have lt0 : ∀ x ∈ p0, x.block < W.heap.size := by obtain ⟨m, hm⟩ := k0; exact DataW.trod_lt m _ _ _ hm
  obtain ⟨z0, w0⟩ : ∃ zs, IsRow .i64 W a0 len0 cap0 zs := by
    obtain ⟨fuel, hf⟩ := h0
    rcases open_ints Try.underlying22 Try.underlying2 (by kernel_rfl) hf with ⟨hcs, _⟩ | ⟨x, l, c, zs, hcs, _, hl, hm, hz, _, hcell, hwz⟩
    · simp [Value.cells] at hcs
      obtain ⟨rfl, rfl, rfl⟩ := hcs
      exact ⟨[], .inl ⟨rfl, rfl, rfl, rfl⟩⟩
    · simp [Value.cells] at hcs
      obtain ⟨rfl, rfl, rfl⟩ := hcs
      exact ⟨zs, .inr ⟨_, rfl, hl, hm, by simpa using hz, hcell, hwz⟩⟩
  have y0 : len0 * 8 ≤ 140737488351232 := Go.Proofs.YtjkgjmaldbmgmaaW.PrintWords.sized_ints hsz (j := 0) (t := 22) rfl rfl Try.underlying22 Try.underlying2 (by kernel_rfl) (by kernel_rfl) h0
  clear hA0 hval0 hsz0 hsz
  refine (P.laws_FnExactAreBalanced.walk Pure.FnExactAreBalanced a0 len0 cap0 z0 W w0 y0).mono fun e W' ⟨he, bel⟩ => ?_
  subst he
  exact ⟨_, rfl, _, _, _, [], _, [], hW', trodAll_mk1 (shut_bool Try.underlying4 _), (trodAll_cons_mk (Below.trod laidOut (by kernel_rfl) (of_decide_eq_true (by kernel_rfl)) k0 bel lt0) trodAll_mk0), rfl, bel.frame _, fun h => by cases h⟩
theorem over : Rows.fnExactAreBalancedRow.holds Try.pinned (OpenSpec.ofChange Rows.fnExactAreBalancedSpec) :=
  OpenClaim.holds_of_wide 3 Try.f3 rfl rfl rfl rfl rfl rfl rfl ⟨rfl, rfl, rfl, rfl, rfl⟩ rfl rfl rfl rfl rfl (by kernel_rfl) Try.func3 (by kernel_rfl)
    (of_decide_eq_true (by kernel_rfl)) (by unfold Func.isWrapper; first | (rw [if_pos (by decide +kernel)]; kernel_rfl) | (rw [if_neg (by decide +kernel)]; exact ⟨rfl, rfl⟩))
    (fun os started H enc _ => lifted os started H enc)
theorem proved : Rows.FnExactAreBalancedSaid := over
end Go.Proofs.Ytjkgjmaldbmgmaa.fnExactAreBalanced
namespace Go.Proofs.Ytjkgjmaldbmgmaa
/-- The row, under a short name, for the claim. -/
theorem fnExactAreBalanced_holds : Rows.FnExactAreBalancedSaid := fnExactAreBalanced.proved
end Go.Proofs.Ytjkgjmaldbmgmaa
end
