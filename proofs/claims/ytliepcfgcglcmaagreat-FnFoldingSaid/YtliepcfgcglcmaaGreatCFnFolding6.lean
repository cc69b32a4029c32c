/- Folded tasks served by turns are served by the divided turns, the gaps that turns serve are the least ones, and who asks more has greater gaps. -/
import Derived.Test.YtliepcfgcglcmaaGreatCFnFolding5

set_option maxRecDepth 100000
set_option maxHeartbeats 8000000
section
namespace Go.Proofs.YtliepcfgcglcmaaGreat.P
open Go.RowKit Go.Proofs.YtliepcfgcglcmaaGreatW.PrintWords Go.Proofs.YtliepcfgcglcmaaGreatW.PrintLast Go.Proofs.YtliepcfgcglcmaaGreatW.PrintMore
attribute [local go_sem] Kn Kj Ld Li Kb Ke Kl Km
set_option linter.unusedVariables false
set_option linter.unusedSimpArgs false
mutual
def Bw.l0 : Nat → List Int → Int → List Int → List Int → Int → Int → Option (List Int)
 | 0, _, _, _, _, _, _ => none
 | k + 1, x0, x1, x5, x11, x12, x13 => if x13 < x12 then (if 0 ≤ x13 then (if x13 < (x11.length : Int) then (if (rd x11 x13) = x1 then (if x5.length < 17592186044416 then (Bw.l0 k x0 x1 (x5 ++ [x13]) x11 x12 (wrap64 (x13 + 1))) else (none)) else (Bw.l0 k x0 x1 x5 x11 x12 (wrap64 (x13 + 1)))) else (none)) else (none)) else (Bw.l1 k x0 x5 ([] : List Int) x5 (x5.length : Int) 0)
def Bw.l1 : Nat → List Int → List Int → List Int → List Int → Int → Int → Option (List Int)
 | 0, _, _, _, _, _, _ => none
 | k + 1, x0, x5, x6, x26, x27, x28 => if x28 < x27 then (if 0 ≤ x28 then (if x28 < (x26.length : Int) then (if (wrap64 (x28 + 1)) < (x5.length : Int) then (if 0 ≤ (wrap64 (x28 + 1)) then (if x6.length < 17592186044416 then (Bw.l1 k x0 x5 (x6 ++ [wrap64 ((rd x5 (wrap64 (x28 + 1))) - (rd x26 x28))]) x26 x27 (wrap64 (x28 + 1))) else (none)) else (none)) else (if 0 < (x5.length : Int) then ((Fe.f x0).bind fun t111 => (if x6.length < 17592186044416 then (Bw.l1 k x0 x5 (x6 ++ [wrap64 ((wrap64 ((rd x5 0) + t111)) - (rd x26 x28))]) x26 x27 (wrap64 (x28 + 1))) else (none))) else (none))) else (none)) else (none)) else (some x6)
end
def Bw.f (k : Nat) (l0 : List Int) (a1 : Int) : Option (List Int) := Bw.l0 k l0 a1 ([] : List Int) l0 (l0.length : Int) 0
theorem Bw.mono_l : ∀ k, (∀ y0 y1 y2 y3 y4 y5, LeO (Bw.l0 k y0 y1 y2 y3 y4 y5) (Bw.l0 (k + 1) y0 y1 y2 y3 y4 y5)) ∧ (∀ y0 y1 y2 y3 y4 y5, LeO (Bw.l1 k y0 y1 y2 y3 y4 y5) (Bw.l1 (k + 1) y0 y1 y2 y3 y4 y5))
 | 0 => ⟨fun _ _ _ _ _ _ r h => by simp [Bw.l0] at h, fun _ _ _ _ _ _ r h => by simp [Bw.l1] at h⟩
 | k + 1 => by
  obtain ⟨ih0, ih1⟩ := Bw.mono_l k
  refine ⟨?_, ?_⟩ <;> intros <;> (first | unfold Bw.l0 | unfold Bw.l1) <;> repeat' first | (with_reducible first | exact ih0 _ _ _ _ _ _ | exact ih1 _ _ _ _ _ _ | exact LeO.refl _ | exact LeO.none _ | refine LeO.ite ?_ ?_ | refine LeO.bind ?_ (fun _ => ?_)) | exact ih0 _ _ _ _ _ _ | exact ih1 _ _ _ _ _ _ | exact LeO.none _ | refine LeO.ite ?_ ?_ | refine LeO.bind ?_ (fun _ => ?_)
theorem Bw.mono : ∀ a0 a1 k, LeO (Bw.f k a0 a1) (Bw.f (k + 1) a0 a1) := by
 intro a0 a1 k
 obtain ⟨ih0, ih1⟩ := Bw.mono_l k
 unfold Bw.f
 repeat' first | (with_reducible first | exact ih0 _ _ _ _ _ _ | exact ih1 _ _ _ _ _ _ | exact LeO.refl _ | exact LeO.none _ | refine LeO.ite ?_ ?_ | refine LeO.bind ?_ (fun _ => ?_)) | exact ih0 _ _ _ _ _ _ | exact ih1 _ _ _ _ _ _ | exact LeO.none _ | refine LeO.ite ?_ ?_ | refine LeO.bind ?_ (fun _ => ?_)
def Bw.T13 : Bool × List (List Nat × List Nat) := (true, [([], []), ([], []), ([1], [1]), ([2], [2]), ([], []), ([4], [4]), ([3, 5], [3, 5]), ([], []), ([6, 7], [6, 7]), ([8], [8]), ([0, 9, 5], [0, 9]), ([10, 10, 0, 1, 2, 3, 4, 5, 6, 7, 8, 9, 10], [0, 10])])
def Bw.B13 : List Nat := [0, 0, 2, 6, 0, 16, 62, 0, 254, 510, 1023, 2047]
theorem Bw.tab13 : rtab .any (Lz Tryz.f55 13) = Bw.T13 := by kernel_rfl
theorem Bw.bits13 : Gh Bw.T13.2 Bw.B13 = true := by kernel_rfl
theorem Bw.calls (k : Nat) (A0 : Option Addr) (c0 : Nat) (l0 : List Int) (a1 : Int) (r : List Int) (w : World) (hr0 : Kd.C (Kd.int .i64) w A0 l0.length l0) (hc0 : l0.length ≤ c0) (h : Bw.f k l0 a1 = some r) :
    Calls Tryz.prog 55 #[.slice A0 l0.length c0, .int .i64 a1] w fun e w' => ∃ v0_ : Value, e = .returned (v0_) ∧ Kd.R (Kd.int .i64) 2 w' w.heap.size (fun _ => True) v0_ r ∧ Below w.heap.size w w' := by
 have HR0 := Aa.mk hr0
 have HC0 := Aa.mk hc0
 clear hr0 hc0
 have HB := Aa.mk (Below.refl w.heap.size w)
 have H := h
 clear h
 unfold Bw.f at H
 have H' := Aa.mk H
 clear H
 go_enter Tryz.func55, Tryz.ntmps55
 go_wp2
 go_loopg [5, 13] k (fun kq v5 v13 w' => ∃ (x5_1 : List Int) (x13_1 : Int), v13 = .int .i64 x13_1 ∧ Aa (Bw.l0 kq l0 a1 x5_1 l0 (l0.length : Int) x13_1 = some r) ∧ Aa (kq ≤ k) ∧ Aa (Kd.R (Kd.int .i64) 2 w' w.heap.size (fun _ => True) v5 x5_1) ∧ Aa (Below w.heap.size w w'))
 case atStart => exact ⟨(([] : List Int)), (0), zF, H', ⟨Nat.le_refl _⟩, ⟨zN⟩, ⟨zB⟩⟩
 clear H'
 obtain ⟨x5_1, x13_1, rfl, HA, HK1, HO_5, HB⟩ := hrel
 cases gk with
 | zero => exact absurd HA.out (by simp [Bw.l0])
 | succ k1 =>
  have H := HA.out
  clear HA
  simp only [Bw.l0] at H
  by_cases c3 : x13_1 < (l0.length : Int)
  ·
   rw [if_pos c3] at H
   have c3b0 := decide_eq_true c3
   clear c3
   by_cases c4 : 0 ≤ x13_1
   case neg => rw [if_neg c4] at H; exact absurd H (by simp)
   rw [if_pos c4] at H
   have c4b0 := decide_eq_true c4
   clear c4
   by_cases c5 : x13_1 < (l0.length : Int)
   case neg => rw [if_neg c5] at H; exact absurd H (by simp)
   rw [if_pos c5] at H
   have c5b0 := decide_eq_true c5
   clear c5
   by_cases c6 : (rd l0 x13_1) = a1
   case neg =>
    rw [if_neg c6] at H
    have c6b0 : ((rd l0 x13_1) == a1) = false := beq_eq_false_iff_ne.mpr c6
    have c6b1 : ((rd l0 x13_1) != a1) = true := bne_iff_ne.mpr c6
    have H' := Aa.mk H
    clear H
    have p101 : 0 ≤ (x13_1 : Int) := zD
    have q101 : x13_1 < (l0.length : Int) := zD
    obtain ⟨ad101, e101, hx101_0⟩ := Kd.Cv HR0.out x13_1 p101 q101
    cases e101
    replace hx101_0 := (HB.out.cell (World.block_lt_of_cell? w _ hx101_0)).trans hx101_0
    replace p101 := eq_true p101
    replace q101 := eq_true q101
    go_wp2
    go_roundg k1
    case measure => have := HK1.out; omega
    case rel => exact ⟨(x5_1), (wrap64 (x13_1 + 1)), zF, H', ⟨by have := HK1.out; omega⟩, ⟨zR HO_5.out⟩, ⟨zB⟩⟩
   rw [if_pos c6] at H
   have c6b0 : ((rd l0 x13_1) == a1) = true := beq_iff_eq.mpr c6
   have c6b1 : ((rd l0 x13_1) != a1) = false := bne_eq_false_iff_eq.mpr c6
   clear c6
   by_cases c7 : x5_1.length < 17592186044416
   case neg => rw [if_neg c7] at H; exact absurd H (by simp)
   rw [if_pos c7] at H
   have LMc7 := Aa.mk c7
   clear c7
   obtain ⟨y102, hy102⟩ : ∃ y_ : List Int, y_ = (x5_1 ++ [x13_1]) := ⟨_, rfl⟩
   replace H : (Bw.l0 k1 l0 a1 y102 l0 (l0.length : Int) (wrap64 (x13_1 + 1))) = some r := zH hy102
   have Ny102 := Aa.mk hy102
   clear hy102
   have H' := Aa.mk H
   clear H
   have p101 : 0 ≤ (x13_1 : Int) := zD
   have q101 : x13_1 < (l0.length : Int) := zD
   obtain ⟨ad101, e101, hx101_0⟩ := Kd.Cv HR0.out x13_1 p101 q101
   cases e101
   replace hx101_0 := (HB.out.cell (World.block_lt_of_cell? w _ hx101_0)).trans hx101_0
   replace p101 := eq_true p101
   replace q101 := eq_true q101
   go_wp2_with (first | ((with_reducible refine Dp (b := .append) (xs := #[.tmp 21, .tmp 23]) rfl ?_); at_builtin; refine Kd.Gk (Kd.int .i64) (w0 := w) w.heap.size rfl (.tmp 21) (.tmp 23) 24 2 (.int .i64 0) 8 rfl Tryz.underlying24 Gb rfl (by decide) (by omega) u5 x5_1 x13_1 [.int .i64 x13_1] (fun _ => True) (fun _ => False) rfl rfl ?aP (fun _ hk => hk.elim) ?aF ?aO ?aB ?aS ?aL ?_; (case aP => exact rfl); (case aB => exact (zB)); (case aF => exact (fun _ _ => trivial)); (case aO => exact (zR HO_5.out)); (case aS => exact (An (zB))); (case aL => have := LMc7.out; omega); intro v103 w8 ho hb hg hat; rw [← Ny102.out] at ho; have n_ := y2 (hb) (ho); clear HB HO_5; obtain ⟨HB, HO104⟩ := n_; clear ho hb hg hat))
   go_roundg k1
   case measure => have := HK1.out; omega
   case rel => exact ⟨(y102), (wrap64 (x13_1 + 1)), zF, H', ⟨by have := HK1.out; omega⟩, ⟨zR HO104.out⟩, ⟨zB⟩⟩
  rw [if_neg c3] at H
  have c3b0 := decide_eq_false c3
  clear c3
  have H' := Aa.mk H
  clear H
  obtain ⟨Ao9, co9, eo9⟩ := Kd.Bb HO_5.out
  subst eo9
  go_wp2
  go_loopg [6, 28] k1 (fun kq v6 v28 w' => ∃ (x6_2 : List Int) (x28_2 : Int), v28 = .int .i64 x28_2 ∧ Aa (Bw.l1 kq l0 x5_1 x6_2 x5_1 (x5_1.length : Int) x28_2 = some r) ∧ Aa (kq ≤ k1) ∧ Aa (Kd.R (Kd.int .i64) 2 w' w.heap.size (fun k_ => some k_ ≠ (v6 : Value).ownBlock) (.slice Ao9 x5_1.length co9) x5_1) ∧ Aa (Kd.R (Kd.int .i64) 2 w' w.heap.size (fun k_ => some k_ ≠ ((.slice Ao9 x5_1.length co9) : Value).ownBlock ∧ some k_ ≠ ((.slice Ao9 x5_1.length co9) : Value).ownBlock) v6 x6_2) ∧ Aa (Kd.R (Kd.int .i64) 2 w' w.heap.size (fun k_ => some k_ ≠ (v6 : Value).ownBlock) (.slice Ao9 x5_1.length co9) x5_1) ∧ Aa (Below w.heap.size w w'))
  case atStart => exact ⟨(([] : List Int)), (0), zF, H', ⟨Nat.le_refl _⟩, ⟨by refine zR ?_; exact Kd.Ai HO_5.out (fun _ hk => (by simp [Value.ownBlock]))⟩, ⟨zN⟩, ⟨by refine zR ?_; exact Kd.Ai HO_5.out (fun _ hk => (by simp [Value.ownBlock]))⟩, ⟨zB⟩⟩
  clear H'
  try clear c3
  try clear c3b0
  obtain ⟨x6_2, x28_2, rfl, HA, HK2, HO_5, HO_6, HO_26, HB⟩ := hrel
  cases gk with
  | zero => exact absurd HA.out (by simp [Bw.l1])
  | succ k2 =>
   have H := HA.out
   clear HA
   simp only [Bw.l1] at H
   by_cases c10 : x28_2 < (x5_1.length : Int)
   case neg =>
    rw [if_neg c10] at H
    have c10b0 := decide_eq_false c10
    clear c10
    obtain rfl := Option.some.inj H
    go_wp2
    go_ret
    exact ⟨_, zE, by refine zR ?_; exact Kd.Ai HO_6.out (fun _ hk => trivial), zB⟩
   rw [if_pos c10] at H
   have c10b0 := decide_eq_true c10
   clear c10
   by_cases c11 : 0 ≤ x28_2
   case neg => rw [if_neg c11] at H; exact absurd H (by simp)
   rw [if_pos c11] at H
   have c11b0 := decide_eq_true c11
   clear c11
   by_cases c12 : x28_2 < (x5_1.length : Int)
   case neg => rw [if_neg c12] at H; exact absurd H (by simp)
   rw [if_pos c12] at H
   have c12b0 := decide_eq_true c12
   clear c12
   by_cases c13 : (wrap64 (x28_2 + 1)) < (x5_1.length : Int)
   ·
    rw [if_pos c13] at H
    have c13b0 := decide_eq_true c13
    clear c13
    obtain ⟨ji14, hji14⟩ : ∃ j_ : Int, (wrap64 (x28_2 + 1)) = j_ := ⟨_, rfl⟩
    replace H : (if 0 ≤ (ji14) then (if x6_2.length < 17592186044416 then (Bw.l1 k2 l0 x5_1 (x6_2 ++ [wrap64 ((rd x5_1 (ji14)) - (rd x5_1 x28_2))]) x5_1 (x5_1.length : Int) ji14) else (none)) else (none)) = some r := by first | (rw [hji14] at H; exact H) | (simp only [hji14] at H ⊢; exact H)
    (try rw [hji14] at c13b0)
    have hji14w : (IntKind.i64.wrap (x28_2 + 1)) = ji14 := (Ec _).trans hji14
    by_cases c15 : 0 ≤ (ji14)
    case neg => rw [if_neg c15] at H; exact absurd H (by simp)
    rw [if_pos c15] at H
    have c15b0 := decide_eq_true c15
    clear c15
    by_cases c16 : x6_2.length < 17592186044416
    case neg => rw [if_neg c16] at H; exact absurd H (by simp)
    rw [if_pos c16] at H
    have LMc16 := Aa.mk c16
    clear c16
    obtain ⟨y107, hy107⟩ : ∃ y_ : List Int, y_ = (x6_2 ++ [wrap64 ((rd x5_1 (ji14)) - (rd x5_1 x28_2))]) := ⟨_, rfl⟩
    replace H : (Bw.l1 k2 l0 x5_1 y107 x5_1 (x5_1.length : Int) ji14) = some r := zH hy107
    have Ny107 := Aa.mk hy107
    clear hy107
    have H' := Aa.mk H
    clear H
    have p105 : 0 ≤ (x28_2 : Int) := zD
    have q105 : x28_2 < (x5_1.length : Int) := zD
    obtain ⟨ad105, e105, hx105_0⟩ := Kd.Cv (Kd.Ae HO_26.out).2.2 x28_2 p105 q105
    cases e105
    replace p105 := eq_true p105
    replace q105 := eq_true q105
    have p106 : 0 ≤ ((ji14) : Int) := zD
    have q106 : (ji14) < (x5_1.length : Int) := zD
    obtain ⟨ad106, e106, hx106_0⟩ := Kd.Cv (Kd.Ae HO_5.out).2.2 (ji14) p106 q106
    obtain rfl : ad105 = ad106 := (by injection e106)
    replace p106 := eq_true p106
    replace q106 := eq_true q106
    go_wp2_with (first | ((with_reducible refine Dp (b := .append) (xs := #[.tmp 38, .tmp 46]) rfl ?_); at_builtin; refine Kd.Gk (Kd.int .i64) (w0 := w) w.heap.size rfl (.tmp 38) (.tmp 46) 24 2 (.int .i64 0) 8 rfl Tryz.underlying24 Gb rfl (by decide) (by omega) u6 x6_2 (wrap64 ((rd x5_1 (ji14)) - (rd x5_1 x28_2))) [.int .i64 (wrap64 ((rd x5_1 (ji14)) - (rd x5_1 x28_2)))] (fun k_ => some k_ ≠ (.slice (some ad105) x5_1.length co9 : Value).ownBlock ∧ some k_ ≠ (.slice (some ad105) x5_1.length co9 : Value).ownBlock) (fun _ => False) rfl rfl ?aP (fun _ hk => hk.elim) ?aF ?aO ?aB ?aS ?aL ?_; (case aP => exact rfl); (case aB => exact (zB)); (case aF => exact (fun k_ hk => ⟨Kd.fresh' (Kd.Cx (zR HO_5.out)) k_ hk, Kd.fresh' (Kd.Cx (zR HO_26.out)) k_ hk⟩)); (case aO => exact (zR HO_6.out)); (case aS => exact (An (zB))); (case aL => have := LMc16.out; omega); intro v108 w17 ho hb hg hat; rw [← Ny107.out] at ho; have n_ := y4 (Kd.Cp (ok := (fun _ => True)) (by refine zR ?_; exact Kd.Ai HO_5.out (fun _ hk => ⟨trivial, hk⟩)) hg hat) (Kd.Cp (ok := (fun _ => True)) (by refine zR ?_; exact Kd.Ai HO_26.out (fun _ hk => ⟨trivial, hk⟩)) hg hat) (hb) (ho); clear HO_5 HO_26 HB HO_6; obtain ⟨HO_5, HO_26, HB, HO109⟩ := n_; clear ho hb hg hat))
    go_roundg k2
    case measure => have := HK1.out; have := HK2.out; omega
    case rel => exact ⟨(y107), (ji14), (by first | rfl | (simp; done) | (simp only [← hji14] <;> (first | rfl | simp)) | (simp [*]; done)), H', ⟨by have := HK1.out; have := HK2.out; omega⟩, ⟨by refine zR ?_; exact Kd.Ai HO_5.out (fun _ hk => hk.2)⟩, ⟨zR HO109.out⟩, ⟨by refine zR ?_; exact Kd.Ai HO_26.out (fun _ hk => hk.2)⟩, ⟨zB⟩⟩
   rw [if_neg c13] at H
   have c13b0 := decide_eq_false c13
   clear c13
   by_cases c18 : 0 < (x5_1.length : Int)
   case neg => rw [if_neg c18] at H; exact absurd H (by simp)
   rw [if_pos c18] at H
   have c18b0 := decide_eq_true c18
   have c18b1 : decide (0 < x5_1.length) = true := decide_eq_true (by omega)
   clear c18
   obtain ⟨t111, A19, H⟩ := zO H
   try dsimp only at H
   by_cases c20 : x6_2.length < 17592186044416
   case neg => rw [if_neg c20] at H; exact absurd H (by simp)
   rw [if_pos c20] at H
   have LMc20 := Aa.mk c20
   clear c20
   obtain ⟨y112, hy112⟩ : ∃ y_ : List Int, y_ = (x6_2 ++ [wrap64 ((wrap64 ((rd x5_1 0) + t111)) - (rd x5_1 x28_2))]) := ⟨_, rfl⟩
   replace H : (Bw.l1 k2 l0 x5_1 y112 x5_1 (x5_1.length : Int) (wrap64 (x28_2 + 1))) = some r := zH hy112
   have Ny112 := Aa.mk hy112
   clear hy112
   have H' := Aa.mk H
   clear H
   have p105 : 0 ≤ (x28_2 : Int) := zD
   have q105 : x28_2 < (x5_1.length : Int) := zD
   obtain ⟨ad105, e105, hx105_0⟩ := Kd.Cv (Kd.Ae HO_26.out).2.2 x28_2 p105 q105
   cases e105
   replace p105 := eq_true p105
   replace q105 := eq_true q105
   try go_wp2
   have n_ := y4 (Kd.Ep HO_5.out) (Kd.Ep HO_6.out) (Kd.Ep HO_26.out) (Bz HB.out)
   clear HO_5 HO_6 HO_26 HB
   obtain ⟨HO_5, HO_6, HO_26, HB⟩ := n_
   have p110 : 0 ≤ (0 : Int) := (by omega)
   have q110 : 0 < (x5_1.length : Int) := zD
   obtain ⟨ad110, e110, hx110_0⟩ := Kd.Cv (Kd.Ae HO_5.out).2.2 0 p110 q110
   obtain rfl : ad105 = ad110 := (by injection e110)
   have qi110 : (0 < x5_1.length) = True := eq_true (by omega)
   (try rw [show ((0 : Int)).toNat = 0 from rfl] at hx110_0)
   (try rw [Addr.add_zero'] at hx110_0)
   replace p110 := eq_true p110
   replace q110 := eq_true q110
   refine Fg (n := 12) (S := fun w' => w'.cell? ad105 = some (.int .i64 (rd x5_1 0))) (ds := [9, 10]) #[false,false,false,false,false,false,false,false,false,false,false,false] zk rfl rfl (hx110_0) (fun hHeld => ?_); refine Eh Bw.tab13 Bw.bits13 (fun HT_ HW_ => ?_)
   generalize wr.drew = w21 at HO_5 HO_6 HO_26 HB hx110_0 hHeld ⊢
   refine pT 0 48 HT_ ?_
   refine pT 1 49 HT_ ?_
   refine pT 2 50 HT_ ?_
   refine pT 4 52 HT_ ?_
   refine pT 7 55 HT_ ?_
   refine tT 3 51 HT_ HW_ hHeld ?_
   refine Fk (i := 5) (N := some 53) #[true,true,true,true,true,true,false,true,false,false,false,false] rfl rfl (Db HT_.out zk) (by decide) (fun K hK => ?_)
   refine Ff Tryz.func47 zk rfl #[.slice A0 l0.length c0] (by rfl) rfl rfl zA ?_
   with_reducible refine (Fe.calls _ _ l0 t111 _ ?side1 ?side2 A19.out).mono ?_
   (case side1 => exact zC (Kd.Bh HR0.out HB.out))
   (case side2 => exact HC0.out)
   rintro e w' ⟨rfl, ⟨nd, rfl⟩⟩
   refine ⟨_, rfl, ?_⟩
   refine hK.out _ _ (hHeld) (fun hHeld => ?_)
   clear hK K
   refine nT 53 ?_
   refine pT 6 54 HT_ ?_
   refine pT 8 56 HT_ ?_
   refine Ms (i := 9) (N := some 57) #[true,true,true,true,true,true,true,true,true,true,false,false] rfl rfl (Db HT_.out zk) (by decide) (fun K hK => ?_)
   refine Xm (w1 := ?_) (v := ?_) (by rfl) rfl ?_ ?_
   rotate_left 2
   ·
    go_simp
    constructor
    · rfl
    rfl
   refine hK.out _ _ ?_
   clear hK K
   refine nT 57 ?_
   refine Ms (i := 10) (N := some 58) #[true,true,true,true,true,true,true,true,true,true,true,false] rfl rfl (Db HT_.out zk) (by decide) (fun K hK => ?_)
   refine Kd.Mj (Kd.int .i64) (w0 := w) w.heap.size (by rfl) (.tmp 48) (.tmp 57) 24 2 (.int .i64 0) 8 rfl Tryz.underlying24 Gb rfl (by decide) (by omega) u6 x6_2 (wrap64 ((wrap64 ((rd x5_1 0) + t111)) - (rd x5_1 x28_2))) [.int .i64 (wrap64 ((wrap64 ((rd x5_1 0) + t111)) - (rd x5_1 x28_2)))] (fun k_ => some k_ ≠ (.slice (some ad105) x5_1.length co9 : Value).ownBlock ∧ some k_ ≠ (.slice (some ad105) x5_1.length co9 : Value).ownBlock) (fun _ => False) rfl rfl ?aP (fun _ hk => hk.elim) ?aF ?aO ?aB ?aS ?aL ?_
   (case aP => exact rfl)
   (case aB => exact (zB))
   (case aF => exact (fun k_ hk => ⟨Kd.fresh' (Kd.Cx (zR HO_5.out)) k_ hk, Kd.fresh' (Kd.Cx (zR HO_26.out)) k_ hk⟩))
   (case aO => exact (zR HO_6.out))
   (case aS => exact (An (zB)))
   (case aL => have := LMc20.out; omega)
   intro v113 w22 ho hb hg hat
   rw [← Ny112.out] at ho
   have n_ := y4 (Kd.Cp (ok := (fun _ => True)) (by refine zR ?_; exact Kd.Ai HO_5.out (fun _ hk => ⟨trivial, hk⟩)) hg hat) (Kd.Cp (ok := (fun _ => True)) (by refine zR ?_; exact Kd.Ai HO_26.out (fun _ hk => ⟨trivial, hk⟩)) hg hat) (hb) (ho)
   clear HO_5 HO_26 HB HO_6
   obtain ⟨HO_5, HO_26, HB, HO114⟩ := n_
   clear ho hb hg hat
   refine hK.out _ _ ?_
   clear hK K
   refine nT 58 ?_
   refine pT 11 6 HT_ ?_
   refine Gf (Fo HT_.out zk) ?_
   try go_wp2
   go_roundg k2
   case measure => have := HK1.out; have := HK2.out; omega
   case rel => exact ⟨(y112), (wrap64 (x28_2 + 1)), zF, H', ⟨by have := HK1.out; have := HK2.out; omega⟩, ⟨by refine zR ?_; exact Kd.Ai HO_5.out (fun _ hk => hk.2)⟩, ⟨zR HO114.out⟩, ⟨by refine zR ?_; exact Kd.Ai HO_26.out (fun _ hk => hk.2)⟩, ⟨zB⟩⟩
def Ck.l0 : Nat → List Int → List Int → Int → Int → Option (Bool)
 | 0, _, _, _, _ => none
 | k + 1, x1, x9, x10, x11 => if x11 < x10 then (if 0 ≤ x11 then (if x11 < (x9.length : Int) then ((Bw.f k x1 x11).bind fun t103 => (if (t103.length : Int) = 0 then (some false) else ((Cq.f k t103).bind fun t106 => (if t106 > (rd x9 x11) then (some false) else (Ck.l0 k x1 x9 x10 (wrap64 (x11 + 1))))))) else (none)) else (none)) else (some true)
def Ck.f (k : Nat) (l0_0 : List Int) (l1 : List Int) : Option (Bool) := Ck.l0 k l1 l0_0 (l0_0.length : Int) 0
theorem Ck.mono_l : ∀ k, (∀ y0 y1 y2 y3, LeO (Ck.l0 k y0 y1 y2 y3) (Ck.l0 (k + 1) y0 y1 y2 y3))
 | 0 => fun _ _ _ _ r h => by simp [Ck.l0] at h
 | k + 1 => by
  have ih0 := Ck.mono_l k
  ·
   intro y0 y1 y2 y3
   unfold Ck.l0
   repeat' first | (with_reducible first | exact ih0 _ _ _ _ | exact Cq.mono _ _ | exact Bw.mono _ _ _ | exact LeO.refl _ | exact LeO.none _ | refine LeO.ite ?_ ?_ | refine LeO.bind ?_ (fun _ => ?_)) | exact ih0 _ _ _ _ | exact Cq.mono _ _ | exact Bw.mono _ _ _ | exact LeO.none _ | refine LeO.ite ?_ ?_ | refine LeO.bind ?_ (fun _ => ?_)
theorem Ck.mono : ∀ a0 a1 k, LeO (Ck.f k a0 a1) (Ck.f (k + 1) a0 a1) := by
 intro a0 a1 k
 have ih0 := Ck.mono_l k
 unfold Ck.f
 repeat' first | (with_reducible first | exact ih0 _ _ _ _ | exact Cq.mono _ _ | exact Bw.mono _ _ _ | exact LeO.refl _ | exact LeO.none _ | refine LeO.ite ?_ ?_ | refine LeO.bind ?_ (fun _ => ?_)) | exact ih0 _ _ _ _ | exact Cq.mono _ _ | exact Bw.mono _ _ _ | exact LeO.none _ | refine LeO.ite ?_ ?_ | refine LeO.bind ?_ (fun _ => ?_)
theorem Ck.calls (k : Nat) (A0_0 : Option Addr) (c0_0 : Nat) (l0_0 : List Int) (A1 : Option Addr) (c1 : Nat) (l1 : List Int) (r : Bool) (w : World) (hr0_0 : Kd.C (Kd.int .i64) w A0_0 l0_0.length l0_0) (hc0_0 : l0_0.length ≤ c0_0) (hr1 : Kd.C (Kd.int .i64) w A1 l1.length l1) (hc1 : l1.length ≤ c1) (h : Ck.f k l0_0 l1 = some r) :
    Calls Tryz.prog 50 #[.agg #[.slice A0_0 l0_0.length c0_0], .slice A1 l1.length c1] w fun e w' => e = .returned (.bool r) ∧ Below w.heap.size w w' := by
 have hu26 := Tryz.underlying26
 have HR0_0 := Aa.mk hr0_0
 have HC0_0 := Aa.mk hc0_0
 clear hr0_0 hc0_0
 have HR1 := Aa.mk hr1
 have HC1 := Aa.mk hc1
 clear hr1 hc1
 have HB := Aa.mk (Below.refl w.heap.size w)
 have H := h
 clear h
 unfold Ck.f at H
 have H' := Aa.mk H
 clear H
 go_enter Tryz.func50, Tryz.ntmps50
 go_wp2_with (first | ((with_reducible refine Ay (N := 2) rfl ?_); refine Be zr (N := 2) zr (cs := #[.slice A0_0 l0_0.length c0_0]) (t := 26) zg ?_; intro gb101 hg w3 hbox hb; have n_ := y4 (Ab (zB) hb) (hbox) ((zS hg : w.heap.size ≤ gb101)) ((zS hg : w.heap.size ≤ gb101)); clear HB; obtain ⟨HB, BK101, GW101, GE101⟩ := n_; clear hb hbox hg; obtain ⟨hcz4_0, hfz4_0⟩ := zw BK101.out))
 go_loopg [11] k (fun kq v11 w' => ∃ (x11_1 : Int), v11 = .int .i64 x11_1 ∧ Aa (Ck.l0 kq l1 l0_0 (l0_0.length : Int) x11_1 = some r) ∧ Aa (kq ≤ k) ∧ Aa (Below w.heap.size w w'))
 case atStart => exact ⟨(0), zF, H', ⟨Nat.le_refl _⟩, ⟨zB⟩⟩
 clear H'
 try clear hcz4_0
 try clear hfz4_0
 obtain ⟨x11_1, rfl, HA, HK1, HB⟩ := hrel
 cases gk with
 | zero => exact absurd HA.out (by simp [Ck.l0])
 | succ k1 =>
  have H := HA.out
  clear HA
  simp only [Ck.l0] at H
  by_cases c5 : x11_1 < (l0_0.length : Int)
  case neg =>
   rw [if_neg c5] at H
   have c5b0 := decide_eq_false c5
   clear c5
   obtain rfl := Option.some.inj H
   go_wp2
   go_ret
   exact ⟨zE, zB⟩
  rw [if_pos c5] at H
  have c5b0 := decide_eq_true c5
  clear c5
  by_cases c6 : 0 ≤ x11_1
  case neg => rw [if_neg c6] at H; exact absurd H (by simp)
  rw [if_pos c6] at H
  have c6b0 := decide_eq_true c6
  clear c6
  by_cases c7 : x11_1 < (l0_0.length : Int)
  case neg => rw [if_neg c7] at H; exact absurd H (by simp)
  rw [if_pos c7] at H
  have c7b0 := decide_eq_true c7
  clear c7
  obtain ⟨t103, A8, H⟩ := zO H
  try dsimp only at H
  by_cases c9 : (t103.length : Int) = 0
  ·
   rw [if_pos c9] at H
   have c9b0 : ((t103.length : Int) == 0) = true := beq_iff_eq.mpr c9
   have c9b1 : ((t103.length : Int) != 0) = false := bne_eq_false_iff_eq.mpr c9
   clear c9
   obtain rfl := Option.some.inj H
   have p102 : 0 ≤ (x11_1 : Int) := zD
   have q102 : x11_1 < (l0_0.length : Int) := zD
   obtain ⟨ad102, e102, hx102_0⟩ := Kd.Cv HR0_0.out x11_1 p102 q102
   cases e102
   replace hx102_0 := (HB.out.cell (World.block_lt_of_cell? w _ hx102_0)).trans hx102_0
   replace p102 := eq_true p102
   replace q102 := eq_true q102
   go_wp2_with (first | (refine gK 55 ?_; refine gL 18 Tryz.func55 #[.slice A1 l1.length c1, .int .i64 x11_1] ?_; (with_reducible refine (Bw.calls k1 _ _ l1 x11_1 t103 _ ?side1 HC1.out A8.out).mono ?_); (case side1 => exact zC (Kd.Bh HR1.out HB.out)); rintro e w10 ⟨v104, rfl, ho0, hb⟩; refine ⟨_, rfl, ?_⟩; have n_ := y2 (Kd.Bk ho0 (An (zB))) (Ab (zB) hb); clear HB; obtain ⟨HO105, HB⟩ := n_; (try clear ho0 hb); obtain ⟨Ao11, co11, eo11⟩ := Kd.Bb HO105.out; subst eo11))
   go_ret
   exact ⟨zE, zB⟩
  rw [if_neg c9] at H
  have c9b0 : ((t103.length : Int) == 0) = false := beq_eq_false_iff_ne.mpr c9
  have c9b1 : ((t103.length : Int) != 0) = true := bne_iff_ne.mpr c9
  have c9b2 : ¬ (t103 = []) := fun h_ => c9 (by rw [h_]; rfl)
  obtain ⟨t106, A12, H⟩ := zO H
  try dsimp only at H
  by_cases c13 : t106 > (rd l0_0 x11_1)
  ·
   rw [if_pos c13] at H
   have c13b0 := decide_eq_true c13
   clear c13
   obtain rfl := Option.some.inj H
   have p102 : 0 ≤ (x11_1 : Int) := zD
   have q102 : x11_1 < (l0_0.length : Int) := zD
   obtain ⟨ad102, e102, hx102_0⟩ := Kd.Cv HR0_0.out x11_1 p102 q102
   cases e102
   replace hx102_0 := (HB.out.cell (World.block_lt_of_cell? w _ hx102_0)).trans hx102_0
   replace p102 := eq_true p102
   replace q102 := eq_true q102
   go_wp2_with (first | (refine gK 55 ?_; refine gL 18 Tryz.func55 #[.slice A1 l1.length c1, .int .i64 x11_1] ?_; (with_reducible refine (Bw.calls k1 _ _ l1 x11_1 t103 _ ?side1 HC1.out A8.out).mono ?_); (case side1 => exact zC (Kd.Bh HR1.out HB.out)); rintro e w14 ⟨v104, rfl, ho0, hb⟩; refine ⟨_, rfl, ?_⟩; have n_ := y2 (Kd.Bk ho0 (An (zB))) (Ab (zB) hb); clear HB; obtain ⟨HO105, HB⟩ := n_; (try clear ho0 hb); obtain ⟨Ao15, co15, eo15⟩ := Kd.Bb HO105.out; subst eo15) | (go_at_call 54; (with_reducible refine (Cq.calls k1 _ _ t103 t106 _ ?side1 ?side2 A12.out).mono ?_); (case side1 => exact zC (Kd.Ae HO105.out).2.2); (case side2 => exact (Kd.Ae HO105.out).2.1); rintro e w16 ⟨rfl, hb⟩; have n_ := y2 (Kd.Ap (zR HO105.out) hb) (Ab (zB) hb); clear HO105 HB; obtain ⟨HO105, HB⟩ := n_; (try clear hb)))
   go_ret
   exact ⟨zE, zB⟩
  rw [if_neg c13] at H
  have c13b0 := decide_eq_false c13
  clear c13
  have H' := Aa.mk H
  clear H
  have p102 : 0 ≤ (x11_1 : Int) := zD
  have q102 : x11_1 < (l0_0.length : Int) := zD
  obtain ⟨ad102, e102, hx102_0⟩ := Kd.Cv HR0_0.out x11_1 p102 q102
  cases e102
  replace hx102_0 := (HB.out.cell (World.block_lt_of_cell? w _ hx102_0)).trans hx102_0
  replace p102 := eq_true p102
  replace q102 := eq_true q102
  go_wp2_with (first | (refine gK 55 ?_; refine gL 18 Tryz.func55 #[.slice A1 l1.length c1, .int .i64 x11_1] ?_; (with_reducible refine (Bw.calls k1 _ _ l1 x11_1 t103 _ ?side1 HC1.out A8.out).mono ?_); (case side1 => exact zC (Kd.Bh HR1.out HB.out)); rintro e w17 ⟨v104, rfl, ho0, hb⟩; refine ⟨_, rfl, ?_⟩; have n_ := y2 (Kd.Bk ho0 (An (zB))) (Ab (zB) hb); clear HB; obtain ⟨HO105, HB⟩ := n_; (try clear ho0 hb); obtain ⟨Ao18, co18, eo18⟩ := Kd.Bb HO105.out; subst eo18) | (go_at_call 54; (with_reducible refine (Cq.calls k1 _ _ t103 t106 _ ?side1 ?side2 A12.out).mono ?_); (case side1 => exact zC (Kd.Ae HO105.out).2.2); (case side2 => exact (Kd.Ae HO105.out).2.1); rintro e w19 ⟨rfl, hb⟩; have n_ := y2 (Kd.Ap (zR HO105.out) hb) (Ab (zB) hb); clear HO105 HB; obtain ⟨HO105, HB⟩ := n_; (try clear hb)))
  go_roundg k1
  case measure => have := HK1.out; omega
  case rel => exact ⟨(wrap64 (x11_1 + 1)), zF, H', ⟨by have := HK1.out; omega⟩, ⟨zB⟩⟩
def Dy.f (k : Nat) (l0_0 : List Int) (l1 : List Int) : Option (Bool × Int) := (Gv.f l0_0 l1).bind fun t102 => (if t102 = 0 then ((Ck.f k l0_0 l1).bind fun t103 => (some (t103, 0))) else (some (false, t102)))
theorem Dy.mono : ∀ a0 a1 k, LeO (Dy.f k a0 a1) (Dy.f (k + 1) a0 a1) := by
 intro a0 a1 k
 unfold Dy.f
 repeat' first | (with_reducible first | exact Ck.mono _ _ _ | exact LeO.refl _ | exact LeO.none _ | refine LeO.ite ?_ ?_ | refine LeO.bind ?_ (fun _ => ?_)) | exact Ck.mono _ _ _ | exact LeO.none _ | refine LeO.ite ?_ ?_ | refine LeO.bind ?_ (fun _ => ?_)
theorem Dy.calls (k : Nat) (A0_0 : Option Addr) (c0_0 : Nat) (l0_0 : List Int) (A1 : Option Addr) (c1 : Nat) (l1 : List Int) (r1 : Bool) (r2 : Int) (w : World) (hr0_0 : Kd.C (Kd.int .i64) w A0_0 l0_0.length l0_0) (hc0_0 : l0_0.length ≤ c0_0) (hr1 : Kd.C (Kd.int .i64) w A1 l1.length l1) (hc1 : l1.length ≤ c1) (h : Dy.f k l0_0 l1 = some (r1, r2)) :
    Calls Tryz.prog 11 #[.agg #[.slice A0_0 l0_0.length c0_0], .slice A1 l1.length c1] w fun e w' => e = .returned (.tuple #[.bool r1, .int .i64 r2]) ∧ Below w.heap.size w w' := by
 have hu26 := Tryz.underlying26
 have HR0_0 := Aa.mk hr0_0
 have HC0_0 := Aa.mk hc0_0
 clear hr0_0 hc0_0
 have HR1 := Aa.mk hr1
 have HC1 := Aa.mk hc1
 clear hr1 hc1
 have HB := Aa.mk (Below.refl w.heap.size w)
 have H := h
 clear h
 unfold Dy.f at H
 obtain ⟨t102, A3, H⟩ := zO H
 try dsimp only at H
 by_cases c4 : t102 = 0
 case neg =>
  rw [if_neg c4] at H
  have c4b0 : (t102 == 0) = false := beq_eq_false_iff_ne.mpr c4
  have c4b1 : (t102 != 0) = true := bne_iff_ne.mpr c4
  simp only [Option.some.injEq, Prod.mk.injEq] at H
  obtain ⟨rfl, rfl⟩ := H
  go_enter Tryz.func11, Tryz.ntmps11
  go_wp2_with (first | ((with_reducible refine Ay (N := 2) rfl ?_); refine Be zr (N := 2) zr (cs := #[.slice A0_0 l0_0.length c0_0]) (t := 26) zg ?_; intro gb101 hg w11 hbox hb; have n_ := y4 (Ab (zB) hb) (hbox) ((zS hg : w.heap.size ≤ gb101)) ((zS hg : w.heap.size ≤ gb101)); clear HB; obtain ⟨HB, BK101, GW101, GE101⟩ := n_; clear hb hbox hg; obtain ⟨hcz12_0, hfz12_0⟩ := zw BK101.out) | (refine gK 49 ?_; refine gL 9 Tryz.func49 #[.agg #[.slice A0_0 l0_0.length c0_0], .slice A1 l1.length c1] ?_; (with_reducible refine (Gv.calls _ _ l0_0 _ _ l1 t102 _ ?side1 HC0_0.out ?side3 HC1.out A3.out).mono ?_); (case side1 => exact zC (Kd.Bh HR0_0.out HB.out)); (case side3 => exact zC (Kd.Bh HR1.out HB.out)); rintro e w13 ⟨rfl, hb⟩; refine ⟨_, rfl, ?_⟩; have n_ := y2 (zb BK101.out hb) (Ab (zB) hb); clear BK101 HB; obtain ⟨BK101, HB⟩ := n_; (try clear hb)))
  go_ret2
  exact ⟨zE, zB⟩
 rw [if_pos c4] at H
 have c4b0 : (t102 == 0) = true := beq_iff_eq.mpr c4
 have c4b1 : (t102 != 0) = false := bne_eq_false_iff_eq.mpr c4
 clear c4
 obtain ⟨t103, A5, H⟩ := zO H
 try dsimp only at H
 simp only [Option.some.injEq, Prod.mk.injEq] at H
 obtain ⟨rfl, rfl⟩ := H
 go_enter Tryz.func11, Tryz.ntmps11
 go_wp2_with (first | ((with_reducible refine Ay (N := 2) rfl ?_); refine Be zr (N := 2) zr (cs := #[.slice A0_0 l0_0.length c0_0]) (t := 26) zg ?_; intro gb101 hg w6 hbox hb; have n_ := y4 (Ab (zB) hb) (hbox) ((zS hg : w.heap.size ≤ gb101)) ((zS hg : w.heap.size ≤ gb101)); clear HB; obtain ⟨HB, BK101, GW101, GE101⟩ := n_; clear hb hbox hg; obtain ⟨hcz7_0, hfz7_0⟩ := zw BK101.out) | (refine gK 49 ?_; refine gL 9 Tryz.func49 #[.agg #[.slice A0_0 l0_0.length c0_0], .slice A1 l1.length c1] ?_; (with_reducible refine (Gv.calls _ _ l0_0 _ _ l1 t102 _ ?side1 HC0_0.out ?side3 HC1.out A3.out).mono ?_); (case side1 => exact zC (Kd.Bh HR0_0.out HB.out)); (case side3 => exact zC (Kd.Bh HR1.out HB.out)); rintro e w8 ⟨rfl, hb⟩; refine ⟨_, rfl, ?_⟩; have n_ := y2 (zb BK101.out hb) (Ab (zB) hb); clear BK101 HB; obtain ⟨BK101, HB⟩ := n_; (try clear hb); obtain ⟨hcz9_0, hfz9_0⟩ := zw BK101.out) | (refine gK 50 ?_; refine gL 15 Tryz.func50 #[.agg #[.slice A0_0 l0_0.length c0_0], .slice A1 l1.length c1] ?_; (with_reducible refine (Ck.calls k _ _ l0_0 _ _ l1 t103 _ ?side1 HC0_0.out ?side3 HC1.out A5.out).mono ?_); (case side1 => exact zC (Kd.Bh HR0_0.out HB.out)); (case side3 => exact zC (Kd.Bh HR1.out HB.out)); rintro e w10 ⟨rfl, hb⟩; refine ⟨_, rfl, ?_⟩; have n_ := y2 (zb BK101.out hb) (Ab (zB) hb); clear BK101 HB; obtain ⟨BK101, HB⟩ := n_; (try clear hb)))
 go_ret2
 exact ⟨zE, zB⟩
def Br.l0 : Nat → List Int → List Int → Int → Int → Option (List Int × Int × Int)
 | 0, _, _, _, _ => none
 | k + 1, x5, x1000, x1001, x1002 => if (x5.length : Int) ≤ 120 then (if x5.length < 17592186044416 then (Br.l0 k (x5 ++ [(-1)]) x1000 x1001 x1002) else (none)) else (some (x5, x1001, x1002))
def Br.f (k : Nat) (s0_0 : List Int) (s0_1 : Int) (s0_2 : Int) (l1 : List Int) : Option (List Int × Int × Int) := (Fc.f l1).bind fun t101 => ((Bf.f s0_0 s0_1 s0_2 40).bind fun bt104 => (if bt104.1 = 0 then (some ((([] : List Int)), bt104.2.1, bt104.2.2)) else (if bt104.1 = 1 then ((Bf.f s0_0 bt104.2.1 bt104.2.2 (t101.length : Int)).bind fun bt110 => ((Co.f s0_0 bt110.2.1 bt110.2.2 (([(-2), 8, 1099511627776, 7] : List Int))).bind fun bt116 => (if 0 ≤ bt110.1 then (if bt110.1 < (t101.length : Int) then (some ((t101.set (bt110.1 : Int).toNat bt116.1), bt116.2.1, bt116.2.2)) else (none)) else (none)))) else (if bt104.1 = 2 then (Br.l0 k t101 s0_0 bt104.2.1 bt104.2.2) else (some (t101, bt104.2.1, bt104.2.2))))))
theorem Br.mono_l : ∀ k, (∀ y0 y1 y2 y3, LeO (Br.l0 k y0 y1 y2 y3) (Br.l0 (k + 1) y0 y1 y2 y3))
 | 0 => fun _ _ _ _ r h => by simp [Br.l0] at h
 | k + 1 => by
  have ih0 := Br.mono_l k
  ·
   intro y0 y1 y2 y3
   unfold Br.l0
   repeat' first | (with_reducible first | exact ih0 _ _ _ _ | exact LeO.refl _ | exact LeO.none _ | refine LeO.ite ?_ ?_ | refine LeO.bind ?_ (fun _ => ?_)) | exact ih0 _ _ _ _ | exact LeO.none _ | refine LeO.ite ?_ ?_ | refine LeO.bind ?_ (fun _ => ?_)
theorem Br.mono : ∀ a0 a1 a2 a3 k, LeO (Br.f k a0 a1 a2 a3) (Br.f (k + 1) a0 a1 a2 a3) := by
 intro a0 a1 a2 a3 k
 have ih0 := Br.mono_l k
 unfold Br.f
 repeat' first | (with_reducible first | exact ih0 _ _ _ _ | exact LeO.refl _ | exact LeO.none _ | refine LeO.ite ?_ ?_ | refine LeO.bind ?_ (fun _ => ?_)) | exact ih0 _ _ _ _ | exact LeO.none _ | refine LeO.ite ?_ ?_ | refine LeO.bind ?_ (fun _ => ?_)
theorem Br.calls (k : Nat) (g : Nat) (s0_0 : List Int) (s0_1 : Int) (s0_2 : Int) (A1 : Option Addr) (c1 : Nat) (l1 : List Int) (r1 : List Int) (r2 : Int) (r3 : Int) (w0 w : World) (hI : Af w0 w g s0_0 s0_1 s0_2) (hB : Below w0.heap.size w0 w) (hr1 : Kd.C (Kd.int .i64) w A1 l1.length l1) (hc1 : l1.length ≤ c1) (hf1 : ∀ ad, A1 = some ad → 0 < l1.length → ad.block ≠ g) (h : Br.f k s0_0 s0_1 s0_2 l1 = some (r1, r2, r3)) :
    Calls Tryz.prog 53 #[.pointer (some ⟨g, 0, none⟩), .slice A1 l1.length c1] w fun e w' => ∃ v0_ : Value, e = .returned (v0_) ∧ Kd.R (Kd.int .i64) 2 w' w.heap.size (fun _ => True) v0_ r1 ∧ Af w0 w' g s0_0 r2 r3 ∧ Below w0.heap.size w0 w' ∧ Av w w' g none := by
 have HR1 := Aa.mk hr1
 have HC1 := Aa.mk hc1
 clear hr1 hc1
 have HI0 := Aa.mk hI
 have HK := Aa.mk (Av.refl w g none)
 have HL := Aa.mk hB.size
 clear hI
 have HW0 := Aa.mk hB.size
 have HB := Aa.mk hB
 clear hB
 have H := h
 clear h
 unfold Br.f at H
 obtain ⟨t101, A3, H⟩ := zO H
 try dsimp only at H
 obtain ⟨⟨t104, t105, t106⟩, A4, H⟩ := zO H
 try dsimp only at H
 by_cases c5 : t104 = 0
 ·
  rw [if_pos c5] at H
  have c5b0 : (t104 == 0) = true := beq_iff_eq.mpr c5
  have c5b1 : (t104 != 0) = false := bne_eq_false_iff_eq.mpr c5
  clear c5
  obtain ⟨y107, hy107⟩ : ∃ y_ : List Int, y_ = (([] : List Int)) := ⟨_, rfl⟩
  replace H : (some (y107, t105, t106)) = some (r1, r2, r3) := zH hy107
  have Ny107 := Aa.mk hy107
  clear hy107
  simp only [Option.some.injEq, Prod.mk.injEq] at H
  obtain ⟨rfl, rfl, rfl⟩ := H
  go_enter Tryz.func53, Tryz.ntmps53
  go_wp2_with (first | (refine gK 37 ?_; refine gL 7 Tryz.func37 #[.slice A1 l1.length c1] ?_; (with_reducible refine (Fc.calls _ _ l1 t101 _ ?side1 HC1.out A3.out).mono ?_); (case side1 => exact Kd.Xi 0 HR1.out (zK) hf1); rintro e w6 ⟨v102, rfl, ho0, hb⟩; refine ⟨_, rfl, ?_⟩; have n_ := y4 (Kd.Bk ho0 (Di (w := w) (g := g) (row := none) (zK))) (Af.below (zI) hb) (Av.trans (zK) (Av.of_below hb g none) (.inl rfl)) (Ab (zB) hb); clear HI0 HK HB; obtain ⟨HO103, HI0, HK, HB⟩ := n_; (try clear ho0 hb)) | (refine gK 29 ?_; refine gL 9 Tryz.func29 #[.pointer (some ⟨g, 0, none⟩), .int .i64 40] ?_; (with_reducible refine (Bf.calls g s0_0 s0_1 s0_2 40 t104 t105 t106 w0 _ ?side1 ?side2 A4.out).mono ?_); (case side1 => exact zI); (case side2 => exact zB); rintro e w7 ⟨rfl, hi, hb, hk⟩; refine ⟨_, rfl, ?_⟩; have n_ := y4 (Kd.Ai (Kd.Cz (Af.apart (show Af w0 _ g s0_0 s0_1 s0_2 from zI) (zR HO103.out) (by decide)) hk (fun _ h => h.2)) (fun _ h => h.1)) (Av.trans (zK) hk (.inl rfl)) (hb) (hi); clear HO103 HK HB HI0; obtain ⟨HO103, HK, HB, HI0⟩ := n_; (try clear hi hb hk)) | ((with_reducible refine Ay (N := 12) rfl ?_); refine Kd.Kv (Kd.int .i64) _ 2 ?hg (N := 12) ?hd (xs := ([] : List Int)) (inner := []) (ok := fun _ => True) (okp := fun _ => True) ?hr ?hp (fun _ hk => hk) trivial (Below.refl _ _) (Nat.le_refl _) (by simp) ?_; (case hd => rfl); (case hg => rfl); (case hr => first | (go_simp; done) | (go_simp; rfl)); (case hp => exact (Dk.none _ _)); intro v108 w8 ho9 hb hg_ hnew_; clear hg_ hnew_; (first | rw [← Ny107.out] at ho9 | (simp only [Int.reduceToNat] at ho9; rw [← Ny107.out] at ho9)); have n_ := y5 (Kd.Bu (zR HO103.out) (Kd.Bs ho9) hb) (Kd.Bk (Kd.Bt ho9 (Kd.Cx (zR HO103.out))) (Di (w := w) (g := g) (row := none) (zK))) (Af.below (zI) hb) (Av.trans (zK) (Av.of_below hb g none) (.inl rfl)) (Ab (zB) hb); clear HO103 HI0 HK HB; obtain ⟨HO103, HO109, HI0, HK, HB⟩ := n_; clear hb ho9))
  go_ret
  exact ⟨_, zE, by refine zR ?_; exact Kd.Ai HO109.out (fun _ hk => trivial), zI, zB, zK⟩
 rw [if_neg c5] at H
 have c5b0 : (t104 == 0) = false := beq_eq_false_iff_ne.mpr c5
 have c5b1 : (t104 != 0) = true := bne_iff_ne.mpr c5
 by_cases c10 : t104 = 1
 ·
  rw [if_pos c10] at H
  have c10b0 : (t104 == 1) = true := beq_iff_eq.mpr c10
  have c10b1 : (t104 != 1) = false := bne_eq_false_iff_eq.mpr c10
  clear c10
  obtain ⟨⟨t110, t111, t112⟩, A11, H⟩ := zO H
  try dsimp only at H
  obtain ⟨y113, hy113⟩ : ∃ y_ : List Int, y_ = (([(-2), 8, 1099511627776, 7] : List Int)) := ⟨_, rfl⟩
  replace H : ((Co.f s0_0 t111 t112 y113).bind fun bt116 => (if 0 ≤ t110 then (if t110 < (t101.length : Int) then (some ((t101.set (t110 : Int).toNat bt116.1), bt116.2.1, bt116.2.2)) else (none)) else (none))) = some (r1, r2, r3) := zH hy113
  have Ny113 := Aa.mk hy113
  clear hy113
  obtain ⟨⟨t116, t117, t118⟩, A12, H⟩ := zO H
  try dsimp only at H
  by_cases c13 : 0 ≤ t110
  case neg => rw [if_neg c13] at H; exact absurd H (by simp)
  rw [if_pos c13] at H
  have c13b0 := decide_eq_true c13
  clear c13
  by_cases c14 : t110 < (t101.length : Int)
  case neg => rw [if_neg c14] at H; exact absurd H (by simp)
  rw [if_pos c14] at H
  have c14b0 := decide_eq_true c14
  clear c14
  obtain ⟨y119, hy119⟩ : ∃ y_ : List Int, y_ = (t101.set (t110 : Int).toNat t116) := ⟨_, rfl⟩
  replace H : (some (y119, t117, t118)) = some (r1, r2, r3) := zH hy119
  have Ny119 := Aa.mk hy119
  clear hy119
  simp only [Option.some.injEq, Prod.mk.injEq] at H
  obtain ⟨rfl, rfl, rfl⟩ := H
  go_enter Tryz.func53, Tryz.ntmps53
  go_wp2_with (first | (refine gK 37 ?_; refine gL 7 Tryz.func37 #[.slice A1 l1.length c1] ?_; (with_reducible refine (Fc.calls _ _ l1 t101 _ ?side1 HC1.out A3.out).mono ?_); (case side1 => exact Kd.Xi 0 HR1.out (zK) hf1); rintro e w16 ⟨v102, rfl, ho0, hb⟩; refine ⟨_, rfl, ?_⟩; have n_ := y4 (Kd.Bk ho0 (Di (w := w) (g := g) (row := none) (zK))) (Af.below (zI) hb) (Av.trans (zK) (Av.of_below hb g none) (.inl rfl)) (Ab (zB) hb); clear HI0 HK HB; obtain ⟨HO103, HI0, HK, HB⟩ := n_; (try clear ho0 hb)) | (refine gK 29 ?_; refine gL 9 Tryz.func29 #[.pointer (some ⟨g, 0, none⟩), .int .i64 40] ?_; (with_reducible refine (Bf.calls g s0_0 s0_1 s0_2 40 t104 t105 t106 w0 _ ?side1 ?side2 A4.out).mono ?_); (case side1 => exact zI); (case side2 => exact zB); rintro e w17 ⟨rfl, hi, hb, hk⟩; refine ⟨_, rfl, ?_⟩; have n_ := y4 (Kd.Ai (Kd.Cz (Af.apart (show Af w0 _ g s0_0 s0_1 s0_2 from zI) (zR HO103.out) (by decide)) hk (fun _ h => h.2)) (fun _ h => h.1)) (Av.trans (zK) hk (.inl rfl)) (hb) (hi); clear HO103 HK HB HI0; obtain ⟨HO103, HK, HB, HI0⟩ := n_; (try clear hi hb hk); obtain ⟨Ao18, co18, eo18⟩ := Kd.Bb HO103.out; subst eo18) | (refine gK 29 ?_; refine gL 19 Tryz.func29 #[.pointer (some ⟨g, 0, none⟩), .int .i64 (t101.length : Int)] ?_; (with_reducible refine (Bf.calls g s0_0 t105 t106 (t101.length : Int) t110 t111 t112 w0 _ ?side1 ?side2 A11.out).mono ?_); (case side1 => exact zI); (case side2 => exact zB); rintro e w19 ⟨rfl, hi, hb, hk⟩; refine ⟨_, rfl, ?_⟩; have n_ := y4 (Kd.Ai (Kd.Cz (Af.apart (show Af w0 _ g s0_0 t105 t106 from zI) (zR HO103.out) (by decide)) hk (fun _ h => h.2)) (fun _ h => h.1)) (Av.trans (zK) hk (.inl rfl)) (hb) (hi); clear HO103 HK HB HI0; obtain ⟨HO103, HK, HB, HI0⟩ := n_; (try clear hi hb hk)) | ((with_reducible refine Ay (N := 21) rfl ?_); refine Kd.Kv (Kd.int .i64) _ 2 ?hg (N := 21) ?hd (xs := ([(-2), 8, 1099511627776, 7] : List Int)) (inner := [.int .i64 (-2), .int .i64 8, .int .i64 1099511627776, .int .i64 7]) (ok := fun _ => True) (okp := fun _ => True) ?hr ?hp (fun _ hk => hk) trivial (Below.refl _ _) (Nat.le_refl _) (by simp) ?_; (case hd => rfl); (case hg => rfl); (case hr => first | (go_simp; done) | (go_simp; rfl)); (case hp => exact (Dk.one (show Kd.M (Kd.int .i64) _ _ _ (-2) [.int .i64 (-2)] from rfl) (Dk.one (show Kd.M (Kd.int .i64) _ _ _ 8 [.int .i64 8] from rfl) (Dk.one (show Kd.M (Kd.int .i64) _ _ _ 1099511627776 [.int .i64 1099511627776] from rfl) (Dk.one (show Kd.M (Kd.int .i64) _ _ _ 7 [.int .i64 7] from rfl) (Dk.none _ _)))))); intro v114 w20 ho21 hb hg_ hnew_; clear hg_ hnew_; (first | rw [← Ny113.out] at ho21 | (simp only [Int.reduceToNat] at ho21; rw [← Ny113.out] at ho21)); have n_ := y5 (Kd.Bu (zR HO103.out) (Kd.Bs ho21) hb) (Kd.Bk (Kd.Bt ho21 (Kd.Cx (zR HO103.out))) (Di (w := w) (g := g) (row := none) (zK))) (Af.below (zI) hb) (Av.trans (zK) (Av.of_below hb g none) (.inl rfl)) (Ab (zB) hb); clear HO103 HI0 HK HB; obtain ⟨HO103, HO115, HI0, HK, HB⟩ := n_; clear hb ho21; obtain ⟨Ao22, co22, eo22⟩ := Kd.Bb HO115.out; subst eo22) | (refine gK 52 ?_; refine gL 22 Tryz.func52 #[.pointer (some ⟨g, 0, none⟩), .slice Ao22 y113.length co22] ?_; (with_reducible refine (Co.calls g s0_0 t111 t112 _ _ y113 t116 t117 t118 w0 _ ?side1 ?side2 ?side3 ?side4 ?side5 A12.out).mono ?_); (case side1 => exact zI); (case side2 => exact zB); (case side3 => exact zC (Kd.Ae HO115.out).2.2); (case side4 => exact (Kd.Ae HO115.out).2.1); (case side5 => exact Gx (Af.Gd HI0.out HO115.out (by decide))); rintro e w23 ⟨rfl, hi, hb, hk⟩; refine ⟨_, rfl, ?_⟩; have n_ := y5 (Kd.Ai (Kd.Cz (Af.apart (show Af w0 _ g s0_0 t111 t112 from zI) (zR HO103.out) (by decide)) hk (fun _ h => h.2)) (fun _ h => h.1)) (Kd.Ai (Kd.Cz (Af.apart (show Af w0 _ g s0_0 t111 t112 from zI) (zR HO115.out) (by decide)) hk (fun _ h => h.2)) (fun _ h => h.1)) (Av.trans (zK) hk (.inl rfl)) (hb) (hi); clear HO103 HO115 HK HB HI0; obtain ⟨HO103, HO115, HK, HB, HI0⟩ := n_; (try clear hi hb hk); have p15 : 0 ≤ (t110 : Int) := zD; have q15 : (t110 : Int) < ((t101.length : Int) : Int) := zD; obtain ⟨go15, co15, eo15, gb15, gl15, cl15, HG15⟩ := Kd.Lk HO103.out (by omega); (first | cases eo15 | (injection eo15 with ea_ en_ ec_; (first | subst ea_ | (injection ea_ with ea_; subst ea_)); subst ec_; clear en_)); have GB15 := Aa.mk gb15; have GG15 := Aa.mk HG15; clear gb15 gl15 HG15; obtain ⟨hx15_0, hf15_0⟩ := Kd.Fx 0 HO103.out (t110 : Int) p15 q15; replace p15 := eq_true p15; replace q15 := eq_true q15; have n_ := Aa.mk (Kd.Ai (ok' := (fun k_ => some k_ ≠ (.slice Ao22 y113.length co22 : Value).ownBlock)) HO103.out (fun k_ hk => hk.2)); clear HO103; have HO103 := n_; clear n_; obtain ⟨hy24_, hz24_⟩ := Kd.Fx 0 HO103.out (t110 : Int) (zD) (zD); have HP24 := Kd.Pu HO103.out (t110 : Int) t116) | ((with_reducible refine Ku (t := 2) (p := 23) rfl ?_); refine Kh (t := 2) (p := 23) (v := ?vo_w25) (w1 := (w23.setCell ⟨go15, (t110 : Int).toNat, none⟩ (.int .i64 t116))) ?hg ?ho ?hn ?hr ?_; (case ho => rfl); (case hg => rfl); (case hn => rfl); (case hr => first | (go_simp; done) | (go_simp; rfl)); intro w25 hw; have hg : w23.grownBy w25 (some go15) := (by rw [hw]; exact HP24.2); have hp_ : Kd.R (Kd.int .i64) 2 w25 w.heap.size (fun k_ => some k_ ≠ (.slice Ao22 y113.length co22 : Value).ownBlock) (.slice (some ⟨go15, 0, none⟩) t101.length co18) y119 := (by rw [hw, Ny119.out]; exact HP24.1); clear HP24; have n_ := y5 (Af.grown (zI) hg (Af.Gd HI0.out HO103.out (by decide))) (hp_) (Kd.Cp (v := (.slice (some ⟨go15, 0, none⟩) t101.length co18)) (v1 := (.slice (some ⟨go15, 0, none⟩) t101.length co18)) (ok := (fun _ => True)) (zR HO115.out) hg (.inl rfl)) ((by rw [hw]; exact Gl (HB.out) (Nat.le_trans HL.out GB15.out) : Below w0.heap.size w0 w25)) (Av.trans (zK) (Av.of_grown hg g) (Kd.Pb HO103.out)); clear HI0 HO103 HO115 HB HK; obtain ⟨HI0, HO103, HO115, HB, HK⟩ := n_; clear hg hw hp_))
  go_ret
  exact ⟨_, zE, by refine zR ?_; exact Kd.Ai HO103.out (fun _ hk => trivial), zI, zB, zK⟩
 rw [if_neg c10] at H
 have c10b0 : (t104 == 1) = false := beq_eq_false_iff_ne.mpr c10
 have c10b1 : (t104 != 1) = true := bne_iff_ne.mpr c10
 by_cases c26 : t104 = 2
 case neg =>
  rw [if_neg c26] at H
  have c26b0 : (t104 == 2) = false := beq_eq_false_iff_ne.mpr c26
  have c26b1 : (t104 != 2) = true := bne_iff_ne.mpr c26
  simp only [Option.some.injEq, Prod.mk.injEq] at H
  obtain ⟨rfl, rfl, rfl⟩ := H
  go_enter Tryz.func53, Tryz.ntmps53
  go_wp2_with (first | (refine gK 37 ?_; refine gL 7 Tryz.func37 #[.slice A1 l1.length c1] ?_; (with_reducible refine (Fc.calls _ _ l1 t101 _ ?side1 HC1.out A3.out).mono ?_); (case side1 => exact Kd.Xi 0 HR1.out (zK) hf1); rintro e w34 ⟨v102, rfl, ho0, hb⟩; refine ⟨_, rfl, ?_⟩; have n_ := y4 (Kd.Bk ho0 (Di (w := w) (g := g) (row := none) (zK))) (Af.below (zI) hb) (Av.trans (zK) (Av.of_below hb g none) (.inl rfl)) (Ab (zB) hb); clear HI0 HK HB; obtain ⟨HO103, HI0, HK, HB⟩ := n_; (try clear ho0 hb)) | (refine gK 29 ?_; refine gL 9 Tryz.func29 #[.pointer (some ⟨g, 0, none⟩), .int .i64 40] ?_; (with_reducible refine (Bf.calls g s0_0 s0_1 s0_2 40 t104 t105 t106 w0 _ ?side1 ?side2 A4.out).mono ?_); (case side1 => exact zI); (case side2 => exact zB); rintro e w35 ⟨rfl, hi, hb, hk⟩; refine ⟨_, rfl, ?_⟩; have n_ := y4 (Kd.Ai (Kd.Cz (Af.apart (show Af w0 _ g s0_0 s0_1 s0_2 from zI) (zR HO103.out) (by decide)) hk (fun _ h => h.2)) (fun _ h => h.1)) (Av.trans (zK) hk (.inl rfl)) (hb) (hi); clear HO103 HK HB HI0; obtain ⟨HO103, HK, HB, HI0⟩ := n_; (try clear hi hb hk)))
  go_ret
  exact ⟨_, zE, zR HO103.out, zI, zB, zK⟩
 rw [if_pos c26] at H
 have c26b0 : (t104 == 2) = true := beq_iff_eq.mpr c26
 have c26b1 : (t104 != 2) = false := bne_eq_false_iff_eq.mpr c26
 clear c26
 have H' := Aa.mk H
 clear H
 go_enter Tryz.func53, Tryz.ntmps53
 go_wp2_with (first | (refine gK 37 ?_; refine gL 7 Tryz.func37 #[.slice A1 l1.length c1] ?_; (with_reducible refine (Fc.calls _ _ l1 t101 _ ?side1 HC1.out A3.out).mono ?_); (case side1 => exact Kd.Xi 0 HR1.out (zK) hf1); rintro e w27 ⟨v102, rfl, ho0, hb⟩; refine ⟨_, rfl, ?_⟩; have n_ := y4 (Kd.Bk ho0 (Di (w := w) (g := g) (row := none) (zK))) (Af.below (zI) hb) (Av.trans (zK) (Av.of_below hb g none) (.inl rfl)) (Ab (zB) hb); clear HI0 HK HB; obtain ⟨HO103, HI0, HK, HB⟩ := n_; (try clear ho0 hb)) | (refine gK 29 ?_; refine gL 9 Tryz.func29 #[.pointer (some ⟨g, 0, none⟩), .int .i64 40] ?_; (with_reducible refine (Bf.calls g s0_0 s0_1 s0_2 40 t104 t105 t106 w0 _ ?side1 ?side2 A4.out).mono ?_); (case side1 => exact zI); (case side2 => exact zB); rintro e w28 ⟨rfl, hi, hb, hk⟩; refine ⟨_, rfl, ?_⟩; have n_ := y4 (Kd.Ai (Kd.Cz (Af.apart (show Af w0 _ g s0_0 s0_1 s0_2 from zI) (zR HO103.out) (by decide)) hk (fun _ h => h.2)) (fun _ h => h.1)) (Av.trans (zK) hk (.inl rfl)) (hb) (hi); clear HO103 HK HB HI0; obtain ⟨HO103, HK, HB, HI0⟩ := n_; (try clear hi hb hk)))
 go_loopg [5] k (fun kq v5 w' => ∃ (x5_1 : List Int), Aa (Br.l0 kq x5_1 s0_0 t105 t106 = some (r1, r2, r3)) ∧ Aa (kq ≤ k) ∧ Aa (Kd.R (Kd.int .i64) 2 w' w.heap.size (fun _ => True) v5 x5_1) ∧ Aa (Af w0 w' g s0_0 t105 t106) ∧ Aa (Av w w' g none) ∧ Aa (Below w0.heap.size w0 w'))
 case atStart => exact ⟨(t101), H', ⟨Nat.le_refl _⟩, ⟨zR HO103.out⟩, ⟨zI⟩, ⟨zK⟩, ⟨zB⟩⟩
 clear H'
 try clear c1
 try clear c5
 try clear c5b0
 try clear c5b1
 try clear c10
 try clear c10b0
 try clear c10b1
 try clear c26
 try clear c26b0
 try clear c26b1
 obtain ⟨x5_1, HA, HK1, HO_5, HI0, HK, HB⟩ := hrel
 cases gk with
 | zero => exact absurd HA.out (by simp [Br.l0])
 | succ k1 =>
  have H := HA.out
  clear HA
  simp only [Br.l0] at H
  by_cases c29 : (x5_1.length : Int) ≤ 120
  case neg =>
   rw [if_neg c29] at H
   have c29b0 := decide_eq_false c29
   have c29b1 : decide (x5_1.length ≤ 120) = false := decide_eq_false (by omega)
   clear c29
   simp only [Option.some.injEq, Prod.mk.injEq] at H
   obtain ⟨rfl, rfl, rfl⟩ := H
   obtain ⟨Ao33, co33, eo33⟩ := Kd.Bb HO_5.out
   subst eo33
   go_wp2
   go_ret
   exact ⟨_, zE, zR HO_5.out, zI, zB, zK⟩
  rw [if_pos c29] at H
  have c29b0 := decide_eq_true c29
  have c29b1 : decide (x5_1.length ≤ 120) = true := decide_eq_true (by omega)
  clear c29
  by_cases c30 : x5_1.length < 17592186044416
  case neg => rw [if_neg c30] at H; exact absurd H (by simp)
  rw [if_pos c30] at H
  have LMc30 := Aa.mk c30
  clear c30
  obtain ⟨y120, hy120⟩ : ∃ y_ : List Int, y_ = (x5_1 ++ [(-1)]) := ⟨_, rfl⟩
  replace H : (Br.l0 k1 y120 s0_0 t105 t106) = some (r1, r2, r3) := zH hy120
  have Ny120 := Aa.mk hy120
  clear hy120
  have H' := Aa.mk H
  clear H
  obtain ⟨Ao31, co31, eo31⟩ := Kd.Bb HO_5.out
  subst eo31
  go_wp2_with (first | ((with_reducible refine Dp (b := .append) (xs := #[.tmp 29, .tmp 30]) rfl ?_); at_builtin; refine Kd.Gk (Kd.int .i64) w.heap.size rfl (.tmp 29) (.tmp 30) 24 2 (.int .i64 0) 8 rfl Tryz.underlying24 Gb rfl (by decide) (by omega) (.slice Ao31 x5_1.length co31) x5_1 (-1) [.int .i64 (-1)] (fun _ => True) (fun _ => False) rfl rfl ?aP (fun _ hk => hk.elim) ?aF ?aO (Below.refl _ _) ?aS ?aL ?_; (case aP => exact rfl); (case aF => exact (fun _ _ => trivial)); (case aO => exact (zR HO_5.out)); (case aS => exact (Di (w := w) (g := g) (row := none) (zK))); (case aL => have := LMc30.out; omega); intro v121 w32 ho hb hg hat; rw [← Ny120.out] at ho; have n_ := y4 (Af.grown (zI) hg (Af.Gd HI0.out HO_5.out (by decide))) (Lf (zB) HL.out hb) (Av.trans (zK) (Av.of_grown hg g) (Kd.Pb HO_5.out)) (ho); clear HI0 HB HK HO_5; obtain ⟨HI0, HB, HK, HO122⟩ := n_; clear ho hb hg hat))
  go_roundg k1
  case measure => have := HK1.out; omega
  case rel => exact ⟨(y120), H', ⟨by have := HK1.out; omega⟩, ⟨zR HO122.out⟩, ⟨zI⟩, ⟨zK⟩, ⟨zB⟩⟩
def Dw.f (k : Nat) (l0 : List Int) : Option (List Int × Int) := (Bj.f k l0).bind fun bt101 => ((Ah.f k bt101.1 bt101.2.1 bt101.2.2).bind fun bt105 => ((Dt.f bt105.1).bind fun t114 => ((Bf.f bt101.1 bt105.2.2.1 bt105.2.2.2 16).bind fun bt115 => (if bt115.1 = 0 then ((Co.f bt101.1 bt115.2.1 bt115.2.2 (([0, 9, wrap64 (t114 + 1)] : List Int))).bind fun bt121 => ((Br.f k bt101.1 bt121.2.1 bt121.2.2 bt105.2.1).bind fun bt124 => (some (bt124.1, bt121.1)))) else ((Br.f k bt101.1 bt115.2.1 bt115.2.2 bt105.2.1).bind fun bt129 => (some (bt129.1, t114)))))))
theorem Dw.mono : ∀ a0 k, LeO (Dw.f k a0) (Dw.f (k + 1) a0) := by
 intro a0 k
 unfold Dw.f
 repeat' first | (with_reducible first | exact Br.mono _ _ _ _ _ | exact Ah.mono _ _ _ _ | exact Bj.mono _ _ | exact LeO.refl _ | exact LeO.none _ | refine LeO.ite ?_ ?_ | refine LeO.bind ?_ (fun _ => ?_)) | exact Br.mono _ _ _ _ _ | exact Ah.mono _ _ _ _ | exact Bj.mono _ _ | exact LeO.none _ | refine LeO.ite ?_ ?_ | refine LeO.bind ?_ (fun _ => ?_)
theorem Dw.calls (k : Nat) (A0 : Option Addr) (c0 : Nat) (l0 : List Int) (r1 : List Int) (r2 : Int) (w : World) (hr0 : Kd.C (Kd.int .u8) w A0 l0.length l0) (hc0 : l0.length ≤ c0) (h : Dw.f k l0 = some (r1, r2)) :
    Calls Tryz.prog 12 #[.slice A0 l0.length c0] w fun e w' => ∃ v0_ : Value, e = .returned (.tuple #[v0_, .int .i64 r2]) ∧ Kd.R (Kd.int .i64) 2 w' w.heap.size (fun _ => True) v0_ r1 ∧ Below w.heap.size w w' := by
 have hu26 := Tryz.underlying26
 have HR0 := Aa.mk hr0
 have HC0 := Aa.mk hc0
 clear hr0 hc0
 have HB := Aa.mk (Below.refl w.heap.size w)
 have H := h
 clear h
 unfold Dw.f at H
 obtain ⟨⟨t101, t102, t103⟩, A2, H⟩ := zO H
 try dsimp only at H
 obtain ⟨⟨t105, t108, t111, t112⟩, A3, H⟩ := zO H
 try dsimp only at H
 obtain ⟨t114, A4, H⟩ := zO H
 try dsimp only at H
 obtain ⟨⟨t115, t116, t117⟩, A5, H⟩ := zO H
 try dsimp only at H
 by_cases c6 : t115 = 0
 case neg =>
  rw [if_neg c6] at H
  have c6b0 : (t115 == 0) = false := beq_eq_false_iff_ne.mpr c6
  have c6b1 : (t115 != 0) = true := bne_iff_ne.mpr c6
  obtain ⟨⟨t129, t132, t133⟩, A23, H⟩ := zO H
  try dsimp only at H
  simp only [Option.some.injEq, Prod.mk.injEq] at H
  obtain ⟨rfl, rfl⟩ := H
  go_enter Tryz.func12, Tryz.ntmps12
  go_wp2_with (first | (refine gK 25 ?_; refine gL 9 Tryz.func25 #[.slice A0 l0.length c0] ?_; (with_reducible refine (Bj.calls k _ _ l0 t101 t102 t103 w _ ?side1 HR0.out HC0.out A2.out).mono ?_); (case side1 => exact zB); rintro e w24 ⟨g104, rfl, hi, hb, hb2⟩; refine ⟨_, rfl, ?_⟩; have n_ := y2 (hb) (hi); clear HB; obtain ⟨HB, HI104⟩ := n_; (try clear hi hb hb2)) | (refine gK 51 ?_; refine gL 12 Tryz.func51 #[.pointer (some ⟨g104, 0, none⟩)] ?_; (with_reducible refine (Ah.calls k g104 t101 t102 t103 t105 t108 t111 t112 w _ ?side1 ?side2 A3.out).mono ?_); (case side1 => exact zX HI104.out); (case side2 => exact zB); rintro e w25 ⟨v106, v109, rfl, ho0, ho1, hi, hb, hk⟩; refine ⟨_, rfl, ?_⟩; have n_ := y4 (Kd.Bk ho0 (An (zB))) (Kd.Bk ho1 (An (zB))) (hb) (hi); clear HB HI104; obtain ⟨HO107, HO110, HB, HI104⟩ := n_; (try clear ho0 ho1 hi hb hk)) | ((with_reducible refine Ay (N := 5) rfl ?_); refine Be zr (N := 5) zr (cs := #[.slice none 0 0]) (t := 26) zg ?_; intro gb113 hg w26 hbox hb; have n_ := y9 (Kd.Ap (zR HO107.out) hb) (Kd.Ap (zR HO110.out) hb) (Af.below (zX HI104.out) hb) (Ab (zB) hb) (hbox) ((zS hg : w.heap.size ≤ gb113)) ((zS hg : w.heap.size ≤ gb113)) ((by rw [hg]; exact Nat.ne_of_lt (Af.lt (show Af w _ g104 t101 t111 t112 from zX HI104.out)) : g104 ≠ gb113)) ((by rw [hg]; exact Nat.ne_of_gt (Af.lt (show Af w _ g104 t101 t111 t112 from zX HI104.out)) : gb113 ≠ g104)); clear HO107 HO110 HI104 HB; obtain ⟨HO107, HO110, HI104, HB, BK113, GW113, GE113, NB104_113, NB113_104⟩ := n_; clear hb hbox hg; obtain ⟨Ao27, co27, eo27⟩ := Kd.Bb HO107.out; subst eo27; have hnb28 := NB113_104.out; have hnc28 := NB104_113.out; obtain ⟨hcz29_0, hfz29_0⟩ := zw BK113.out) | (refine gK 28 ?_; refine gL 16 Tryz.func28 #[.agg #[.slice Ao27 t105.length co27]] ?_; (with_reducible refine (Dt.calls _ _ t105 t114 _ ?side1 ?side2 A4.out).mono ?_); (case side1 => exact (zQ HO107.out BK113.out)); (case side2 => exact (Kd.Ae HO107.out).2.1); rintro e w30 ⟨rfl, hb⟩; refine ⟨_, rfl, ?_⟩; have n_ := y5 (Kd.Ap (zV HO107.out BK113.out) hb) (Kd.Ap (zV HO110.out BK113.out) hb) (Af.below (show Af w (w26.setCell ⟨gb113, 0, none⟩ (.slice Ao27 t105.length co27)) g104 t101 t111 t112 from zX HI104.out) hb) (Cy (g := gb113) (o := .cells #[.slice Ao27 t105.length co27] 26 (0, 0)) (by (with_reducible repeat (first | refine Am ?_ _ | refine Ag ?_ | refine Ak ?_ _)); refine Cl (cs := #[.slice none 0 0]) ?_ 0 _ rfl; (with_reducible repeat (first | refine Am ?_ _ | refine Ag ?_ | refine Ak ?_ _)); exact BK113.out) hb) (Ab (zB) hb); clear HO107 HO110 HI104 BK113 HB; obtain ⟨HO107, HO110, HI104, BK113, HB⟩ := n_; (try clear hb)) | (refine gK 29 ?_; refine gL 18 Tryz.func29 #[.pointer (some ⟨g104, 0, none⟩), .int .i64 16] ?_; (with_reducible refine (Bf.calls g104 t101 t111 t112 16 t115 t116 t117 w _ ?side1 ?side2 A5.out).mono ?_); (case side1 => exact zX HI104.out); (case side2 => exact zB); rintro e w31 ⟨rfl, hi, hb, hk⟩; refine ⟨_, rfl, ?_⟩; have n_ := y5 (Kd.Ai (Kd.Cz (Af.apart (show Af w _ g104 t101 t111 t112 from zX HI104.out) (zR HO107.out) (by decide)) hk (fun _ h => h.2)) (fun _ h => h.1)) (Kd.Ai (Kd.Cz (Af.apart (show Af w _ g104 t101 t111 t112 from zX HI104.out) (zR HO110.out) (by decide)) hk (fun _ h => h.2)) (fun _ h => h.1)) (zW BK113.out hk NB113_104.out) (hb) (hi); clear HO107 HO110 BK113 HB HI104; obtain ⟨HO107, HO110, BK113, HB, HI104⟩ := n_; (try clear hi hb hk); obtain ⟨Ao32, co32, eo32⟩ := Kd.Bb HO110.out; subst eo32) | (refine gK 53 ?_; refine gL 27 Tryz.func53 #[.pointer (some ⟨g104, 0, none⟩), .slice Ao32 t108.length co32] ?_; (with_reducible refine (Br.calls k g104 t101 t116 t117 _ _ t108 t129 t132 t133 w _ ?side1 ?side2 ?side3 ?side4 ?side5 A23.out).mono ?_); (case side1 => exact zX HI104.out); (case side2 => exact zB); (case side3 => exact zC (Kd.Ae HO110.out).2.2); (case side4 => exact (Kd.Ae HO110.out).2.1); (case side5 => exact Gx (Af.Gd HI104.out HO110.out (by decide))); rintro e w33 ⟨v130, rfl, ho0, hi, hb, hk⟩; refine ⟨_, rfl, ?_⟩; have n_ := y6 (Kd.Ai (Kd.Ez (Kd.No (Af.apart (show Af w _ g104 t101 t116 t117 from zX HI104.out) (zR HO107.out) (by decide)) hk) (Kd.Bs ho0)) (fun _ h_ => h_.1)) (Kd.Ai (Kd.Ez (Kd.No (Af.apart (show Af w _ g104 t101 t116 t117 from zX HI104.out) (zR HO110.out) (by decide)) hk) (Kd.Bs ho0)) (fun _ h_ => h_.1)) (zW BK113.out hk NB113_104.out) (Kd.Bk (Kd.Bt (Kd.Bt ho0 (Kd.Cx (zR HO107.out))) (Kd.Cx (zR HO110.out))) (An (zB))) (hb) (hi); clear HO107 HO110 BK113 HB HI104; obtain ⟨HO107, HO110, BK113, HO131, HB, HI104⟩ := n_; (try clear ho0 hi hb hk)))
  go_ret2
  exact ⟨_, zE, by refine zR ?_; exact Kd.Ai HO131.out (fun _ hk => trivial), zB⟩
 rw [if_pos c6] at H
 have c6b0 : (t115 == 0) = true := beq_iff_eq.mpr c6
 have c6b1 : (t115 != 0) = false := bne_eq_false_iff_eq.mpr c6
 clear c6
 obtain ⟨y118, hy118⟩ : ∃ y_ : List Int, y_ = (([0, 9, wrap64 (t114 + 1)] : List Int)) := ⟨_, rfl⟩
 replace H : ((Co.f t101 t116 t117 y118).bind fun bt121 => ((Br.f k t101 bt121.2.1 bt121.2.2 t108).bind fun bt124 => (some (bt124.1, bt121.1)))) = some (r1, r2) := zH hy118
 have Ny118 := Aa.mk hy118
 clear hy118
 obtain ⟨⟨t121, t122, t123⟩, A7, H⟩ := zO H
 try dsimp only at H
 obtain ⟨⟨t124, t127, t128⟩, A8, H⟩ := zO H
 try dsimp only at H
 simp only [Option.some.injEq, Prod.mk.injEq] at H
 obtain ⟨rfl, rfl⟩ := H
 go_enter Tryz.func12, Tryz.ntmps12
 go_wp2_with (first | (refine gK 25 ?_; refine gL 9 Tryz.func25 #[.slice A0 l0.length c0] ?_; (with_reducible refine (Bj.calls k _ _ l0 t101 t102 t103 w _ ?side1 HR0.out HC0.out A2.out).mono ?_); (case side1 => exact zB); rintro e w9 ⟨g104, rfl, hi, hb, hb2⟩; refine ⟨_, rfl, ?_⟩; have n_ := y2 (hb) (hi); clear HB; obtain ⟨HB, HI104⟩ := n_; (try clear hi hb hb2)) | (refine gK 51 ?_; refine gL 12 Tryz.func51 #[.pointer (some ⟨g104, 0, none⟩)] ?_; (with_reducible refine (Ah.calls k g104 t101 t102 t103 t105 t108 t111 t112 w _ ?side1 ?side2 A3.out).mono ?_); (case side1 => exact zX HI104.out); (case side2 => exact zB); rintro e w10 ⟨v106, v109, rfl, ho0, ho1, hi, hb, hk⟩; refine ⟨_, rfl, ?_⟩; have n_ := y4 (Kd.Bk ho0 (An (zB))) (Kd.Bk ho1 (An (zB))) (hb) (hi); clear HB HI104; obtain ⟨HO107, HO110, HB, HI104⟩ := n_; (try clear ho0 ho1 hi hb hk)) | ((with_reducible refine Ay (N := 5) rfl ?_); refine Be zr (N := 5) zr (cs := #[.slice none 0 0]) (t := 26) zg ?_; intro gb113 hg w11 hbox hb; have n_ := y9 (Kd.Ap (zR HO107.out) hb) (Kd.Ap (zR HO110.out) hb) (Af.below (zX HI104.out) hb) (Ab (zB) hb) (hbox) ((zS hg : w.heap.size ≤ gb113)) ((zS hg : w.heap.size ≤ gb113)) ((by rw [hg]; exact Nat.ne_of_lt (Af.lt (show Af w _ g104 t101 t111 t112 from zX HI104.out)) : g104 ≠ gb113)) ((by rw [hg]; exact Nat.ne_of_gt (Af.lt (show Af w _ g104 t101 t111 t112 from zX HI104.out)) : gb113 ≠ g104)); clear HO107 HO110 HI104 HB; obtain ⟨HO107, HO110, HI104, HB, BK113, GW113, GE113, NB104_113, NB113_104⟩ := n_; clear hb hbox hg; obtain ⟨Ao12, co12, eo12⟩ := Kd.Bb HO107.out; subst eo12; have hnb13 := NB113_104.out; have hnc13 := NB104_113.out; obtain ⟨hcz14_0, hfz14_0⟩ := zw BK113.out) | (refine gK 28 ?_; refine gL 16 Tryz.func28 #[.agg #[.slice Ao12 t105.length co12]] ?_; (with_reducible refine (Dt.calls _ _ t105 t114 _ ?side1 ?side2 A4.out).mono ?_); (case side1 => exact (zQ HO107.out BK113.out)); (case side2 => exact (Kd.Ae HO107.out).2.1); rintro e w15 ⟨rfl, hb⟩; refine ⟨_, rfl, ?_⟩; have n_ := y5 (Kd.Ap (zV HO107.out BK113.out) hb) (Kd.Ap (zV HO110.out BK113.out) hb) (Af.below (show Af w (w11.setCell ⟨gb113, 0, none⟩ (.slice Ao12 t105.length co12)) g104 t101 t111 t112 from zX HI104.out) hb) (Cy (g := gb113) (o := .cells #[.slice Ao12 t105.length co12] 26 (0, 0)) (by (with_reducible repeat (first | refine Am ?_ _ | refine Ag ?_ | refine Ak ?_ _)); refine Cl (cs := #[.slice none 0 0]) ?_ 0 _ rfl; (with_reducible repeat (first | refine Am ?_ _ | refine Ag ?_ | refine Ak ?_ _)); exact BK113.out) hb) (Ab (zB) hb); clear HO107 HO110 HI104 BK113 HB; obtain ⟨HO107, HO110, HI104, BK113, HB⟩ := n_; (try clear hb)) | (refine gK 29 ?_; refine gL 18 Tryz.func29 #[.pointer (some ⟨g104, 0, none⟩), .int .i64 16] ?_; (with_reducible refine (Bf.calls g104 t101 t111 t112 16 t115 t116 t117 w _ ?side1 ?side2 A5.out).mono ?_); (case side1 => exact zX HI104.out); (case side2 => exact zB); rintro e w16 ⟨rfl, hi, hb, hk⟩; refine ⟨_, rfl, ?_⟩; have n_ := y5 (Kd.Ai (Kd.Cz (Af.apart (show Af w _ g104 t101 t111 t112 from zX HI104.out) (zR HO107.out) (by decide)) hk (fun _ h => h.2)) (fun _ h => h.1)) (Kd.Ai (Kd.Cz (Af.apart (show Af w _ g104 t101 t111 t112 from zX HI104.out) (zR HO110.out) (by decide)) hk (fun _ h => h.2)) (fun _ h => h.1)) (zW BK113.out hk NB113_104.out) (hb) (hi); clear HO107 HO110 BK113 HB HI104; obtain ⟨HO107, HO110, BK113, HB, HI104⟩ := n_; (try clear hi hb hk)) | ((with_reducible refine Ay (N := 23) rfl ?_); refine Kd.Kv (Kd.int .i64) _ 2 ?hg (N := 23) ?hd (xs := ([0, 9, wrap64 (t114 + 1)] : List Int)) (inner := [.int .i64 0, .int .i64 9, .int .i64 (wrap64 (t114 + 1))]) (ok := fun _ => True) (okp := fun _ => True) ?hr ?hp (fun _ hk => hk) trivial (Below.refl _ _) (Nat.le_refl _) (by simp) ?_; (case hd => rfl); (case hg => rfl); (case hr => first | (go_simp; done) | (go_simp; rfl)); (case hp => exact (Dk.one (show Kd.M (Kd.int .i64) _ _ _ 0 [.int .i64 0] from rfl) (Dk.one (show Kd.M (Kd.int .i64) _ _ _ 9 [.int .i64 9] from rfl) (Dk.one (show Kd.M (Kd.int .i64) _ _ _ (wrap64 (t114 + 1)) [.int .i64 (wrap64 (t114 + 1))] from rfl) (Dk.none _ _))))); intro v119 w17 ho18 hb hg_ hnew_; clear hg_ hnew_; (first | rw [← Ny118.out] at ho18 | (simp only [Int.reduceToNat] at ho18; rw [← Ny118.out] at ho18)); have n_ := y6 (Kd.Bu (zR HO107.out) (Kd.Bs ho18) hb) (Kd.Bu (zR HO110.out) (Kd.Bs ho18) hb) (Kd.Bk (Kd.Bt (Kd.Bt ho18 (Kd.Cx (zR HO107.out))) (Kd.Cx (zR HO110.out))) (An (zB))) (Af.below (zX HI104.out) hb) (zb BK113.out hb) (Ab (zB) hb); clear HO107 HO110 HI104 BK113 HB; obtain ⟨HO107, HO110, HO120, HI104, BK113, HB⟩ := n_; clear hb ho18; obtain ⟨Ao19, co19, eo19⟩ := Kd.Bb HO120.out; subst eo19) | (refine gK 52 ?_; refine gL 24 Tryz.func52 #[.pointer (some ⟨g104, 0, none⟩), .slice Ao19 y118.length co19] ?_; (with_reducible refine (Co.calls g104 t101 t116 t117 _ _ y118 t121 t122 t123 w _ ?side1 ?side2 ?side3 ?side4 ?side5 A7.out).mono ?_); (case side1 => exact zX HI104.out); (case side2 => exact zB); (case side3 => exact zC (Kd.Ae HO120.out).2.2); (case side4 => exact (Kd.Ae HO120.out).2.1); (case side5 => exact Gx (Af.Gd HI104.out HO120.out (by decide))); rintro e w20 ⟨rfl, hi, hb, hk⟩; refine ⟨_, rfl, ?_⟩; have n_ := y6 (Kd.Ai (Kd.Cz (Af.apart (show Af w _ g104 t101 t116 t117 from zX HI104.out) (zR HO107.out) (by decide)) hk (fun _ h => h.2)) (fun _ h => h.1)) (Kd.Ai (Kd.Cz (Af.apart (show Af w _ g104 t101 t116 t117 from zX HI104.out) (zR HO110.out) (by decide)) hk (fun _ h => h.2)) (fun _ h => h.1)) (zW BK113.out hk NB113_104.out) (Kd.Ai (Kd.Cz (Af.apart (show Af w _ g104 t101 t116 t117 from zX HI104.out) (zR HO120.out) (by decide)) hk (fun _ h => h.2)) (fun _ h => h.1)) (hb) (hi); clear HO107 HO110 BK113 HO120 HB HI104; obtain ⟨HO107, HO110, BK113, HO120, HB, HI104⟩ := n_; (try clear hi hb hk); obtain ⟨Ao21, co21, eo21⟩ := Kd.Bb HO110.out; subst eo21) | (refine gK 53 ?_; refine gL 27 Tryz.func53 #[.pointer (some ⟨g104, 0, none⟩), .slice Ao21 t108.length co21] ?_; (with_reducible refine (Br.calls k g104 t101 t122 t123 _ _ t108 t124 t127 t128 w _ ?side1 ?side2 ?side3 ?side4 ?side5 A8.out).mono ?_); (case side1 => exact zX HI104.out); (case side2 => exact zB); (case side3 => exact zC (Kd.Ae HO110.out).2.2); (case side4 => exact (Kd.Ae HO110.out).2.1); (case side5 => exact Gx (Af.Gd HI104.out HO110.out (by decide))); rintro e w22 ⟨v125, rfl, ho0, hi, hb, hk⟩; refine ⟨_, rfl, ?_⟩; have n_ := y7 (Kd.Ai (Kd.Ez (Kd.No (Af.apart (show Af w _ g104 t101 t122 t123 from zX HI104.out) (zR HO107.out) (by decide)) hk) (Kd.Bs ho0)) (fun _ h_ => h_.1)) (Kd.Ai (Kd.Ez (Kd.No (Af.apart (show Af w _ g104 t101 t122 t123 from zX HI104.out) (zR HO110.out) (by decide)) hk) (Kd.Bs ho0)) (fun _ h_ => h_.1)) (zW BK113.out hk NB113_104.out) (Kd.Ai (Kd.Ez (Kd.No (Af.apart (show Af w _ g104 t101 t122 t123 from zX HI104.out) (zR HO120.out) (by decide)) hk) (Kd.Bs ho0)) (fun _ h_ => h_.1)) (Kd.Bk (Kd.Bt (Kd.Bt (Kd.Bt ho0 (Kd.Cx (zR HO107.out))) (Kd.Cx (zR HO110.out))) (Kd.Cx (zR HO120.out))) (An (zB))) (hb) (hi); clear HO107 HO110 BK113 HO120 HB HI104; obtain ⟨HO107, HO110, BK113, HO120, HO126, HB, HI104⟩ := n_; (try clear ho0 hi hb hk)))
 go_ret2
 exact ⟨_, zE, by refine zR ?_; exact Kd.Ai HO126.out (fun _ hk => trivial), zB⟩
def Cf.f (k : Nat) (l0 : List Int) (a1 : Int) : Option (Bool) := (Ax.f k l0 a1).bind fun t101 => (some (decide (t101 ≥ 0)))
theorem Cf.mono : ∀ a0 a1 k, LeO (Cf.f k a0 a1) (Cf.f (k + 1) a0 a1) := by
 intro a0 a1 k
 unfold Cf.f
 repeat' first | (with_reducible first | exact Ax.mono _ _ _ | exact LeO.refl _ | exact LeO.none _ | refine LeO.ite ?_ ?_ | refine LeO.bind ?_ (fun _ => ?_)) | exact Ax.mono _ _ _ | exact LeO.none _ | refine LeO.ite ?_ ?_ | refine LeO.bind ?_ (fun _ => ?_)
theorem Cf.calls (k : Nat) (A0 : Option Addr) (c0 : Nat) (l0 : List Int) (a1 : Int) (r : Bool) (w : World) (hr0 : Kd.C (Kd.int .i64) w A0 l0.length l0) (hc0 : l0.length ≤ c0) (h : Cf.f k l0 a1 = some r) :
    Calls Tryz.prog 56 #[.slice A0 l0.length c0, .int .i64 a1] w fun e w' => e = .returned (.bool r) ∧ Ct w w' := by
 have HR0 := Aa.mk hr0
 have HC0 := Aa.mk hc0
 clear hr0 hc0
 have H := h
 clear h
 unfold Cf.f at H
 obtain ⟨t101, A3, H⟩ := zO H
 try dsimp only at H
 obtain rfl := Option.some.inj H
 go_enter Tryz.func56, Tryz.ntmps56
 go_wp2_with (first | (refine gK 72 ?_; refine gL 7 Tryz.func72 #[.slice A0 l0.length c0, .int .i64 a1] ?_; (with_reducible refine (Ax.calls k _ _ l0 a1 t101 _ (zC HR0.out) HC0.out A3.out).mono ?_); rintro e w' ⟨rfl, ⟨nd, rfl⟩⟩; refine ⟨_, rfl, ?_⟩))
 go_ret
 exact ⟨by first | rfl | (simp; done) | (simp [*]; done), by repeat (first | exact Ct.refl _ | apply Ct.step)⟩
mutual
def Bi.j0 : Nat → List Int → Int → Bool → Option (List Int × Int)
 | 0, _, _, _ => none
 | k + 1, x0, x1, x16 => if x16 = true then (some (([] : List Int), 2)) else (Bi.l0 k x0 x1 0 ([] : List Int))
def Bi.l0 : Nat → List Int → Int → Int → List Int → Option (List Int × Int)
 | 0, _, _, _, _ => none
 | k + 1, x0, x18, x19, x105000 => if x19 < x18 then ((Bw.f k x0 x19).bind fun t105 => ((Cq.f k t105).bind fun t108 => (if x105000.length < 17592186044416 then (Bi.l0 k x0 x18 (wrap64 (x19 + 1)) (x105000 ++ [t108])) else (none)))) else ((Cf.f k x105000 0).bind fun t112 => (if t112 = true then (some (([] : List Int), 4)) else ((Fj.f x105000).bind fun t113 => (if t113 = true then (some (x105000, 0)) else (some (([] : List Int), 3))))))
end
def Bi.f (k : Nat) (l0 : List Int) (a1 : Int) : Option (List Int × Int) := (Es.f a1 1 8).bind fun t102 => (if t102 = true then ((Gs.f l0 a1).bind fun t103 => (Bi.j0 k l0 a1 (!t103))) else (Bi.j0 k l0 a1 true))
theorem Bi.mono_l : ∀ k, (∀ y0 y1 y2, LeO (Bi.j0 k y0 y1 y2) (Bi.j0 (k + 1) y0 y1 y2)) ∧ (∀ y0 y1 y2 y3, LeO (Bi.l0 k y0 y1 y2 y3) (Bi.l0 (k + 1) y0 y1 y2 y3))
 | 0 => ⟨fun _ _ _ r h => by simp [Bi.j0] at h, fun _ _ _ _ r h => by simp [Bi.l0] at h⟩
 | k + 1 => by
  obtain ⟨ih0, ih1⟩ := Bi.mono_l k
  refine ⟨?_, ?_⟩ <;> intros <;> (first | unfold Bi.j0 | unfold Bi.l0) <;> repeat' first | (with_reducible first | exact ih0 _ _ _ | exact ih1 _ _ _ _ | exact Cq.mono _ _ | exact Bw.mono _ _ _ | exact Cf.mono _ _ _ | exact LeO.refl _ | exact LeO.none _ | refine LeO.ite ?_ ?_ | refine LeO.bind ?_ (fun _ => ?_)) | exact ih0 _ _ _ | exact ih1 _ _ _ _ | exact Cq.mono _ _ | exact Bw.mono _ _ _ | exact Cf.mono _ _ _ | exact LeO.none _ | refine LeO.ite ?_ ?_ | refine LeO.bind ?_ (fun _ => ?_)
theorem Bi.mono : ∀ a0 a1 k, LeO (Bi.f k a0 a1) (Bi.f (k + 1) a0 a1) := by
 intro a0 a1 k
 obtain ⟨ih0, ih1⟩ := Bi.mono_l k
 unfold Bi.f
 repeat' first | (with_reducible first | exact ih0 _ _ _ | exact ih1 _ _ _ _ | exact Cq.mono _ _ | exact Bw.mono _ _ _ | exact Cf.mono _ _ _ | exact LeO.refl _ | exact LeO.none _ | refine LeO.ite ?_ ?_ | refine LeO.bind ?_ (fun _ => ?_)) | exact ih0 _ _ _ | exact ih1 _ _ _ _ | exact Cq.mono _ _ | exact Bw.mono _ _ _ | exact Cf.mono _ _ _ | exact LeO.none _ | refine LeO.ite ?_ ?_ | refine LeO.bind ?_ (fun _ => ?_)
def Bi.T7 : Bool × List (List Nat × List Nat) := (true, [([], []), ([0], [0]), ([], []), ([], []), ([2, 3], [2, 3]), ([4, 4], [4]), ([5], [5]), ([1, 6, 5], [1, 6]), ([0, 1, 2, 3, 4, 5, 6, 7], []), ([8, 7, 7, 0, 1, 2, 3, 4, 5, 6, 7], [7, 8])])
def Bi.B7 : List Nat := [0, 1, 0, 0, 12, 28, 60, 127, 255, 511]
theorem Bi.tab7 : rtab .any (Lz Tryz.f13 7) = Bi.T7 := by kernel_rfl
theorem Bi.bits7 : Gh Bi.T7.2 Bi.B7 = true := by kernel_rfl
theorem Bi.calls (k : Nat) (A0 : Option Addr) (c0 : Nat) (l0 : List Int) (a1 : Int) (r1 : List Int) (r2 : Int) (w : World) (hr0 : Kd.C (Kd.int .i64) w A0 l0.length l0) (hc0 : l0.length ≤ c0) (h : Bi.f k l0 a1 = some (r1, r2)) :
    Calls Tryz.prog 13 #[.slice A0 l0.length c0, .int .i64 a1] w fun e w' => ∃ v0_ : Value, e = .returned (.tuple #[.agg #[v0_], .int .i64 r2]) ∧ Kd.R (Kd.int .i64) 2 w' w.heap.size (fun _ => True) v0_ r1 ∧ Below w.heap.size w w' := by
 have hu26 := Tryz.underlying26
 have HR0 := Aa.mk hr0
 have HC0 := Aa.mk hc0
 clear hr0 hc0
 have HB := Aa.mk (Below.refl w.heap.size w)
 have H := h
 clear h
 unfold Bi.f at H
 have HC3 := Aa.mk H
 clear H
 go_enter Tryz.func13, Tryz.ntmps13
 go_upto_region 1 with (first | ((with_reducible refine Ay (N := 4) rfl ?_); refine Be zr (N := 4) zr (cs := #[.slice none 0 0]) (t := 26) zg ?_; intro gb101 hg w4 hbox hb; have n_ := y4 (Ab (zB) hb) (hbox) ((zS hg : w.heap.size ≤ gb101)) ((zS hg : w.heap.size ≤ gb101)); clear HB; obtain ⟨HB, BK101, GW101, GE101⟩ := n_; clear hb hbox hg))
 (try simp only [Act.put, List.setIfInBounds_toArray, List.set_cons_zero, List.set_cons_succ])
 go_cut [16] (fun v16 wc => ∃ (kq : Nat) (x16_2 : Bool), v16 = .bool x16_2 ∧ Aa (Bi.j0 kq l0 a1 x16_2 = some (r1, r2)) ∧ Aa (kq ≤ k) ∧ Aa (wc.heap[gb101]? = some (.cells #[(.slice none 0 0)] 26 (0, 0))) ∧ Aa (Below w.heap.size w wc))
 case first =>
  have H := HC3.out
  clear HC3
  obtain ⟨t102, A5, H⟩ := zO H
  try dsimp only at H
  by_cases c6 : t102 = true
  ·
   subst c6
   rw [if_pos rfl] at H
   obtain ⟨t103, A7, H⟩ := zO H
   try dsimp only at H
   have H' := Aa.mk H
   clear H
   go_wp2_with (first | (refine gK 43 ?_; refine gL 9 Tryz.func43 #[.int .i64 a1, .int .i64 1, .int .i64 8] ?_; (with_reducible refine (Es.calls a1 1 8 true _ A5.out).mono ?_); rintro e w' ⟨rfl, ⟨nd, rfl⟩⟩; refine ⟨_, rfl, ?_⟩) | (go_at_call 42; (with_reducible refine (Gs.calls _ _ l0 a1 t103 _ ?side1 HC0.out A7.out).mono ?_); (case side1 => exact zC (Kd.Bh HR0.out (zB))); rintro e w8 ⟨rfl, hb⟩; have n_ := y2 (zb BK101.out hb) (Ab (zB) hb); clear BK101 HB; obtain ⟨BK101, HB⟩ := n_; (try clear hb)))
   go_meet
   case rel => exact ⟨_, (!t103), zF, H', ⟨by first | omega | exact Nat.le_refl _⟩, ⟨zG BK101.out⟩, ⟨zB⟩⟩
  replace c6 := Bool.eq_false_iff.mpr c6
  subst c6
  rw [if_neg zf] at H
  have H' := Aa.mk H
  clear H
  go_wp2_with (first | (refine gK 43 ?_; refine gL 9 Tryz.func43 #[.int .i64 a1, .int .i64 1, .int .i64 8] ?_; (with_reducible refine (Es.calls a1 1 8 false _ A5.out).mono ?_); rintro e w' ⟨rfl, ⟨nd, rfl⟩⟩; refine ⟨_, rfl, ?_⟩))
  go_meet
  case rel => exact ⟨_, (true), zF, H', ⟨by first | omega | exact Nat.le_refl _⟩, ⟨zG BK101.out⟩, ⟨zB⟩⟩
 clear HC3
 obtain ⟨kq, x16_2, rfl, HA, HJ2, BK101, HB⟩ := hcut
 cases kq with
 | zero => exact absurd HA.out (by simp [Bi.j0])
 | succ kj2 =>
  have H := HA.out
  clear HA
  simp only [Bi.j0] at H
  by_cases c9 : x16_2 = true
  ·
   subst c9
   rw [if_pos rfl] at H
   simp only [Option.some.injEq, Prod.mk.injEq] at H
   obtain ⟨rfl, rfl⟩ := H
   obtain ⟨hcz10_0, hfz10_0⟩ := zw BK101.out
   go_wp2
   refine bodyPost_ret (Fw rfl _ _ gb101 26 #[.slice none 0 0] (0, 0) _ rfl (by (with_reducible repeat (first | refine Am ?_ _ | refine Ag ?_ | refine Ak ?_ _)); refine Cl (cs := #[.slice none 0 0]) ?_ 0 _ rfl; (with_reducible repeat (first | refine Am ?_ _ | refine Ag ?_ | refine Ak ?_ _)); exact BK101.out) Tryz.underlying26 rfl zk) rfl ?_
   exact ⟨_, zE, zN, zB⟩
  replace c9 := Bool.eq_false_iff.mpr c9
  subst c9
  rw [if_neg zf] at H
  have H' := Aa.mk H
  clear H
  go_wp2_with (first | ((with_reducible refine Ay (N := 6) rfl ?_); refine Be zr (N := 6) zr (cs := #[.slice none 0 0]) (t := 26) zg ?_; intro gb104 hg w11 hbox hb; have n_ := y7 (zb BK101.out hb) (Ab (zB) hb) (hbox) ((zS hg : w.heap.size ≤ gb104)) ((zS hg : w.heap.size ≤ gb104)) ((zL hg BK101.out : gb101 ≠ gb104)) ((zM hg BK101.out : gb104 ≠ gb101)); clear BK101 HB; obtain ⟨BK101, HB, BK104, GW104, GE104, NB101_104, NB104_101⟩ := n_; clear hb hbox hg))
  go_loopg [19] kj2 (fun kq v19 w' => ∃ (x19_2 : Int) (x105000_2 : List Int) (u105000 : Value), v19 = .int .i64 x19_2 ∧ Aa (Bi.l0 kq l0 a1 x19_2 x105000_2 = some (r1, r2)) ∧ Aa (kq ≤ kj2) ∧ Aa (Kd.R (Kd.int .i64) 2 w' w.heap.size (fun _ => True) u105000 x105000_2) ∧ Aa (w'.heap[gb101]? = some (.cells #[(.slice none 0 0)] 26 (0, 0))) ∧ Aa (w'.heap[gb104]? = some (.cells #[u105000] 26 (0, 0))) ∧ Aa (Below w.heap.size w w'))
  case atStart => exact ⟨(0), (([] : List Int)), (.slice none 0 0), zF, H', ⟨Nat.le_refl _⟩, ⟨zN⟩, ⟨zG BK101.out⟩, ⟨zG BK104.out⟩, ⟨zB⟩⟩
  clear H'
  try clear c9
  obtain ⟨x19_2, x105000_2, u105000, rfl, HA, HK2, HO_105000, BK101, BK104, HB⟩ := hrel
  cases gk with
  | zero => exact absurd HA.out (by simp [Bi.l0])
  | succ k2 =>
   have H := HA.out
   clear HA
   simp only [Bi.l0] at H
   by_cases c12 : x19_2 < a1
   case neg =>
    rw [if_neg c12] at H
    have c12b0 := decide_eq_false c12
    clear c12
    obtain ⟨t112, A23, H⟩ := zO H
    try dsimp only at H
    by_cases c24 : t112 = true
    ·
     subst c24
     rw [if_pos rfl] at H
     simp only [Option.some.injEq, Prod.mk.injEq] at H
     obtain ⟨rfl, rfl⟩ := H
     have hnb25 := NB104_101.out
     have hnc25 := NB101_104.out
     obtain ⟨hcz26_0, hfz26_0⟩ := zw BK104.out
     obtain ⟨Ao27, co27, eo27⟩ := Kd.Bb HO_105000.out
     subst eo27
     go_wp2_with (first | (refine gK 56 ?_; refine gL 35 Tryz.func56 #[.slice Ao27 x105000_2.length co27, .int .i64 0] ?_; (with_reducible refine (Cf.calls k2 _ _ x105000_2 0 true _ ?side1 ?side2 A23.out).mono ?_); (case side1 => exact zC (Kd.Ae HO_105000.out).2.2); (case side2 => exact (Kd.Ae HO_105000.out).2.1); rintro e w' ⟨rfl, ⟨nd, rfl⟩⟩; refine ⟨_, rfl, ?_⟩; (try (rw [Pq wr]; generalize hq_ : World.drewN wr _ = wr; have n0_ : Aa (Kd.R (Kd.int .i64) 2 wr w.heap.size (fun _ => True) (.slice Ao27 x105000_2.length co27) x105000_2) := ⟨by rw [← hq_]; exact (zR HO_105000.out)⟩; have n1_ : Aa (wr.heap[gb101]? = some (.cells #[.slice none 0 0] 26 (0, 0))) := ⟨by rw [← hq_]; exact (zG BK101.out)⟩; have n2_ : Aa (wr.heap[gb104]? = some (.cells #[.slice Ao27 x105000_2.length co27] 26 (0, 0))) := ⟨by rw [← hq_]; exact (zG BK104.out)⟩; have n3_ : Aa (Below w.heap.size w wr) := ⟨by rw [← hq_]; exact (zB)⟩; clear HO_105000 BK101 BK104 HB hq_; have HO_105000 := n0_; have BK101 := n1_; have BK104 := n2_; have HB := n3_; clear n0_ n1_ n2_ n3_; have hczq_ := (Au BK104.out 0).trans rfl; have hfzq_ := Fl BK104.out 0)); obtain ⟨hcz28_0, hfz28_0⟩ := zw BK101.out))
     refine bodyPost_ret (Fw rfl _ _ gb101 26 #[.slice none 0 0] (0, 0) _ rfl (by (with_reducible repeat (first | refine Am ?_ _ | refine Ag ?_ | refine Ak ?_ _)); refine Cl (cs := #[.slice none 0 0]) ?_ 0 _ rfl; (with_reducible repeat (first | refine Am ?_ _ | refine Ag ?_ | refine Ak ?_ _)); exact BK101.out) Tryz.underlying26 rfl zk) rfl ?_
     exact ⟨_, zE, zN, zB⟩
    replace c24 := Bool.eq_false_iff.mpr c24
    subst c24
    rw [if_neg zf] at H
    obtain ⟨t113, A29, H⟩ := zO H
    try dsimp only at H
    by_cases c30 : t113 = true
    ·
     subst c30
     rw [if_pos rfl] at H
     simp only [Option.some.injEq, Prod.mk.injEq] at H
     obtain ⟨rfl, rfl⟩ := H
     have hnb31 := NB104_101.out
     have hnc31 := NB101_104.out
     obtain ⟨hcz32_0, hfz32_0⟩ := zw BK104.out
     obtain ⟨Ao33, co33, eo33⟩ := Kd.Bb HO_105000.out
     subst eo33
     go_wp2_with (first | (refine gK 56 ?_; refine gL 35 Tryz.func56 #[.slice Ao33 x105000_2.length co33, .int .i64 0] ?_; (with_reducible refine (Cf.calls k2 _ _ x105000_2 0 false _ ?side1 ?side2 A23.out).mono ?_); (case side1 => exact zC (Kd.Ae HO_105000.out).2.2); (case side2 => exact (Kd.Ae HO_105000.out).2.1); rintro e w' ⟨rfl, ⟨nd, rfl⟩⟩; refine ⟨_, rfl, ?_⟩; (try (rw [Pq wr]; generalize hq_ : World.drewN wr _ = wr; have n0_ : Aa (Kd.R (Kd.int .i64) 2 wr w.heap.size (fun _ => True) (.slice Ao33 x105000_2.length co33) x105000_2) := ⟨by rw [← hq_]; exact (zR HO_105000.out)⟩; have n1_ : Aa (wr.heap[gb101]? = some (.cells #[.slice none 0 0] 26 (0, 0))) := ⟨by rw [← hq_]; exact (zG BK101.out)⟩; have n2_ : Aa (wr.heap[gb104]? = some (.cells #[.slice Ao33 x105000_2.length co33] 26 (0, 0))) := ⟨by rw [← hq_]; exact (zG BK104.out)⟩; have n3_ : Aa (Below w.heap.size w wr) := ⟨by rw [← hq_]; exact (zB)⟩; clear HO_105000 BK101 BK104 HB hq_; have HO_105000 := n0_; have BK101 := n1_; have BK104 := n2_; have HB := n3_; clear n0_ n1_ n2_ n3_; have hczq_ := (Au BK104.out 0).trans rfl; have hfzq_ := Fl BK104.out 0))) | (refine gK 57 ?_; refine gL 39 Tryz.func57 #[.agg #[.slice Ao33 x105000_2.length co33]] ?_; (with_reducible refine (Fj.calls _ _ x105000_2 true _ ?side1 ?side2 A29.out).mono ?_); (case side1 => exact zC (Kd.Ae HO_105000.out).2.2); (case side2 => exact (Kd.Ae HO_105000.out).2.1); rintro e w34 ⟨rfl, hb⟩; refine ⟨_, rfl, ?_⟩; have n_ := y4 (Kd.Ap (zR HO_105000.out) hb) (zb BK101.out hb) (zb BK104.out hb) (Ab (zB) hb); clear HO_105000 BK101 BK104 HB; obtain ⟨HO_105000, BK101, BK104, HB⟩ := n_; (try clear hb); obtain ⟨hcz35_0, hfz35_0⟩ := zw BK104.out; obtain ⟨hcz36_0, hfz36_0⟩ := zw BK101.out))
     refine bodyPost_ret (Fw rfl _ _ gb101 26 #[.slice Ao33 x105000_2.length co33] (0, 0) _ rfl (by (with_reducible repeat (first | refine Am ?_ _ | refine Ag ?_ | refine Ak ?_ _)); refine Cl (cs := #[.slice none 0 0]) ?_ 0 _ rfl; (with_reducible repeat (first | refine Am ?_ _ | refine Ag ?_ | refine Ak ?_ _)); exact BK101.out) Tryz.underlying26 rfl zk) rfl ?_
     exact ⟨_, zE, by refine zR ?_; exact Kd.Ai (Kd.Dv (p := ⟨gb101, 0, none⟩) (Kd.Cj HO_105000.out BK101.out (by decide)) (fun _ hk => hk.2) (.slice Ao33 x105000_2.length co33)) (fun _ hk => trivial), zB⟩
    replace c30 := Bool.eq_false_iff.mpr c30
    subst c30
    rw [if_neg zf] at H
    simp only [Option.some.injEq, Prod.mk.injEq] at H
    obtain ⟨rfl, rfl⟩ := H
    have hnb37 := NB104_101.out
    have hnc37 := NB101_104.out
    obtain ⟨hcz38_0, hfz38_0⟩ := zw BK104.out
    obtain ⟨Ao39, co39, eo39⟩ := Kd.Bb HO_105000.out
    subst eo39
    go_wp2_with (first | (refine gK 56 ?_; refine gL 35 Tryz.func56 #[.slice Ao39 x105000_2.length co39, .int .i64 0] ?_; (with_reducible refine (Cf.calls k2 _ _ x105000_2 0 false _ ?side1 ?side2 A23.out).mono ?_); (case side1 => exact zC (Kd.Ae HO_105000.out).2.2); (case side2 => exact (Kd.Ae HO_105000.out).2.1); rintro e w' ⟨rfl, ⟨nd, rfl⟩⟩; refine ⟨_, rfl, ?_⟩; (try (rw [Pq wr]; generalize hq_ : World.drewN wr _ = wr; have n0_ : Aa (Kd.R (Kd.int .i64) 2 wr w.heap.size (fun _ => True) (.slice Ao39 x105000_2.length co39) x105000_2) := ⟨by rw [← hq_]; exact (zR HO_105000.out)⟩; have n1_ : Aa (wr.heap[gb101]? = some (.cells #[.slice none 0 0] 26 (0, 0))) := ⟨by rw [← hq_]; exact (zG BK101.out)⟩; have n2_ : Aa (wr.heap[gb104]? = some (.cells #[.slice Ao39 x105000_2.length co39] 26 (0, 0))) := ⟨by rw [← hq_]; exact (zG BK104.out)⟩; have n3_ : Aa (Below w.heap.size w wr) := ⟨by rw [← hq_]; exact (zB)⟩; clear HO_105000 BK101 BK104 HB hq_; have HO_105000 := n0_; have BK101 := n1_; have BK104 := n2_; have HB := n3_; clear n0_ n1_ n2_ n3_; have hczq_ := (Au BK104.out 0).trans rfl; have hfzq_ := Fl BK104.out 0))) | (refine gK 57 ?_; refine gL 39 Tryz.func57 #[.agg #[.slice Ao39 x105000_2.length co39]] ?_; (with_reducible refine (Fj.calls _ _ x105000_2 false _ ?side1 ?side2 A29.out).mono ?_); (case side1 => exact zC (Kd.Ae HO_105000.out).2.2); (case side2 => exact (Kd.Ae HO_105000.out).2.1); rintro e w40 ⟨rfl, hb⟩; refine ⟨_, rfl, ?_⟩; have n_ := y4 (Kd.Ap (zR HO_105000.out) hb) (zb BK101.out hb) (zb BK104.out hb) (Ab (zB) hb); clear HO_105000 BK101 BK104 HB; obtain ⟨HO_105000, BK101, BK104, HB⟩ := n_; (try clear hb); obtain ⟨hcz41_0, hfz41_0⟩ := zw BK101.out))
    refine bodyPost_ret (Fw rfl _ _ gb101 26 #[.slice none 0 0] (0, 0) _ rfl (by (with_reducible repeat (first | refine Am ?_ _ | refine Ag ?_ | refine Ak ?_ _)); refine Cl (cs := #[.slice none 0 0]) ?_ 0 _ rfl; (with_reducible repeat (first | refine Am ?_ _ | refine Ag ?_ | refine Ak ?_ _)); exact BK101.out) Tryz.underlying26 rfl zk) rfl ?_
    exact ⟨_, zE, zN, zB⟩
   rw [if_pos c12] at H
   have c12b0 := decide_eq_true c12
   clear c12
   obtain ⟨t105, A13, H⟩ := zO H
   try dsimp only at H
   obtain ⟨t108, A14, H⟩ := zO H
   try dsimp only at H
   by_cases c15 : x105000_2.length < 17592186044416
   case neg => rw [if_neg c15] at H; exact absurd H (by simp)
   rw [if_pos c15] at H
   have LMc15 := Aa.mk c15
   clear c15
   obtain ⟨y109, hy109⟩ : ∃ y_ : List Int, y_ = (x105000_2 ++ [t108]) := ⟨_, rfl⟩
   replace H : (Bi.l0 k2 l0 a1 (wrap64 (x19_2 + 1)) y109) = some (r1, r2) := zH hy109
   have Ny109 := Aa.mk hy109
   clear hy109
   have H' := Aa.mk H
   clear H
   try go_wp2
   have n_ := y4 (Kd.Ep HO_105000.out) (Ag BK101.out) (Ag BK104.out) (Bz HB.out)
   clear HO_105000 BK101 BK104 HB
   obtain ⟨HO_105000, BK101, BK104, HB⟩ := n_
   refine Fg (n := 10) (S := fun w' => w'.cell? ⟨gb104, 0, none⟩ = some (u105000)) (ds := [9]) #[false,false,false,false,false,false,false,false,false,false] zk rfl rfl ((Au BK104.out 0).trans rfl) (fun hHeld => ?_); refine Eh Bi.tab7 Bi.bits7 (fun HT_ HW_ => ?_)
   generalize wr.drew = w16 at HO_105000 BK101 BK104 HB hHeld ⊢
   refine pT 0 22 HT_ ?_
   refine pT 2 24 HT_ ?_
   refine pT 3 25 HT_ ?_
   refine tT 1 23 HT_ HW_ hHeld ?_
   refine Fk (i := 4) (N := some 26) #[true,true,true,true,true,false,false,false,false,false] rfl rfl (Db HT_.out zk) (by decide) (fun K hK => ?_)
   refine Ff Tryz.func55 zk rfl #[.slice A0 l0.length c0, .int .i64 x19_2] (by rfl) rfl rfl zA ?_
   with_reducible refine (Bw.calls k2 _ _ l0 x19_2 t105 _ ?side1 ?side2 A13.out).mono ?_
   (case side1 => exact zC (Kd.Bh HR0.out HB.out))
   (case side2 => exact HC0.out)
   rintro e w17 ⟨v106, rfl, ho0, hb⟩
   refine ⟨_, rfl, ?_⟩
   have n_ := y5 (Kd.Bu (zR HO_105000.out) (Kd.Bs ho0) hb) (Kd.Bk (Kd.Bt ho0 (Kd.Cx (zR HO_105000.out))) (An (zB))) (zb BK101.out hb) (zb BK104.out hb) (Ab (zB) hb)
   clear HO_105000 BK101 BK104 HB
   obtain ⟨HO_105000, HO107, BK101, BK104, HB⟩ := n_
   try clear ho0 hb
   obtain ⟨Ao18, co18, eo18⟩ := Kd.Bb HO107.out
   (first | subst eo18 | (injection eo18 with f1_ f2_ f3_; have f4_ := f1_.symm; have f5_ := f3_.symm; clear f1_ f2_ f3_; subst f4_; subst f5_))
   refine hK.out _ _ ((Au BK104.out 0).trans rfl) (fun hHeld => ?_)
   clear hK K
   refine nT 26 ?_
   refine Fk (i := 5) (N := some 27) #[true,true,true,true,true,true,false,false,false,false] rfl rfl (Db HT_.out zk) (by decide) (fun K hK => ?_)
   refine Ff Tryz.func54 zk rfl #[.slice Ao18 t105.length co18] (by rfl) rfl rfl zA ?_
   with_reducible refine (Cq.calls k2 _ _ t105 t108 _ ?side1 ?side2 A14.out).mono ?_
   (case side1 => exact zC (Kd.Ae HO107.out).2.2)
   (case side2 => exact (Kd.Ae HO107.out).2.1)
   rintro e w19 ⟨rfl, hb⟩
   refine ⟨_, rfl, ?_⟩
   have n_ := y5 (Kd.Ap (zR HO_105000.out) hb) (Kd.Ap (zR HO107.out) hb) (zb BK101.out hb) (zb BK104.out hb) (Ab (zB) hb)
   clear HO_105000 HO107 BK101 BK104 HB
   obtain ⟨HO_105000, HO107, BK101, BK104, HB⟩ := n_
   try clear hb
   refine hK.out _ _ ((Au BK104.out 0).trans rfl) (fun hHeld => ?_)
   clear hK K
   refine nT 27 ?_
   refine Fk (i := 6) (N := some 28) #[true,true,true,true,true,true,true,false,false,false] rfl rfl (Db HT_.out zk) (by decide) (fun K hK => ?_)
   refine Xm (w1 := ?_) (v := ?_) (by rfl) rfl ?_ ?_
   rotate_left 2
   ·
    go_simp
    constructor
    · rfl
    rfl
   refine hK.out _ _ ((Au (Ak BK104.out _) 0).trans rfl) (fun hHeld => ?_)
   clear hK K
   refine nT 28 ?_
   refine Fk (i := 7) (N := some 29) #[true,true,true,true,true,true,true,true,false,false] rfl rfl (Db HT_.out zk) (by decide) (fun K hK => ?_)
   refine Kd.Mj (Kd.int .i64) (w0 := w) w.heap.size (by rfl) (.tmp 23) (.tmp 28) 24 2 (.int .i64 0) 8 rfl Tryz.underlying24 Gb rfl (by decide) (by omega) u105000 x105000_2 t108 [.int .i64 t108] (fun k_ => some k_ ≠ (.slice Ao18 t105.length co18 : Value).ownBlock) (fun _ => False) rfl rfl ?aP (fun _ hk => hk.elim) ?aF ?aO ?aB ?aS ?aL ?_
   (case aP => exact rfl)
   (case aB => exact (zB))
   (case aF => exact (fun k_ hk => Kd.fresh' (Kd.Cx (zR HO107.out)) k_ hk))
   (case aO => exact (by refine zR ?_; exact Kd.Ai HO_105000.out (fun _ hk => hk.2)))
   (case aS => exact (An (zB)))
   (case aL => have := LMc15.out; omega)
   intro v110 w20 ho hb hg hat
   rw [← Ny109.out] at ho
   have n_ := y5 (Cm (g := gb101) (o := .cells #[.slice none 0 0] 26 (0, 0)) (zG BK101.out) hg (Kd.Em HO_105000.out BK101.out (by decide))) (Cm (g := gb104) (o := .cells #[u105000] 26 (0, 0)) (zG BK104.out) hg (Kd.Em HO_105000.out BK104.out (by decide))) (Kd.Cp (ok := (fun _ => True)) (zR HO107.out) hg hat) (hb) (ho)
   clear BK101 BK104 HO107 HB HO_105000
   obtain ⟨BK101, BK104, HO107, HB, HO111⟩ := n_
   clear ho hb hg hat
   obtain ⟨Ao21, co21, eo21⟩ := Kd.Bb HO111.out
   (first | subst eo21 | (injection eo21 with f1_ f2_ f3_; have f4_ := f1_.symm; have f5_ := f3_.symm; clear f1_ f2_ f3_; subst f4_; subst f5_))
   refine hK.out _ _ ((Au BK104.out 0).trans rfl) (fun hHeld => ?_)
   clear hK K
   refine nT 29 ?_
   refine pT 8 30 HT_ ?_
   refine Ms (i := 9) (N := none) #[true,true,true,true,true,true,true,true,true,true] rfl rfl (Db HT_.out zk) (by decide) (fun K hK => ?_)
   have hs22 : w20.cell? ⟨gb104, 0, none⟩ = some (u105000) := (Au BK104.out 0).trans rfl
   have hfs22 := Fl BK104.out 0
   have hns22_0 := NB101_104.out
   have hms22_0 := NB104_101.out
   refine Lo (w1 := ?_) (by rfl) rfl ?_ ?_
   rotate_left
   ·
    go_simp
    rfl
   refine hK.out _ _ ?_
   clear hK K
   refine Gf (Fo HT_.out zk) ?_
   try go_wp2
   go_roundg k2
   case measure => have := HJ2.out; have := HK2.out; omega
   case rel => exact ⟨(wrap64 (x19_2 + 1)), (y109), (.slice Ao21 y109.length co21), zF, H', ⟨by have := HJ2.out; have := HK2.out; omega⟩, ⟨by refine zR ?_; exact Kd.Ai (Kd.Dv (p := ⟨gb104, 0, none⟩) (Kd.Cj HO111.out BK104.out (by decide)) (fun _ hk => hk.2) (.slice Ao21 y109.length co21)) (fun _ hk => trivial)⟩, ⟨by refine zG ?_; refine Ce ?_ NB101_104.out _; refine zG ?_; exact BK101.out⟩, ⟨by (with_reducible repeat (first | refine Am ?_ _ | refine Ag ?_ | refine Ak ?_ _)); refine Cl (cs := #[u105000]) ?_ 0 _ rfl; (with_reducible repeat (first | refine Am ?_ _ | refine Ag ?_ | refine Ak ?_ _)); exact BK104.out⟩, ⟨zB⟩⟩
def Cr.l0 : Nat → List Int → Int → Int → Option (Bool)
 | 0, _, _, _ => none
 | k + 1, x0, x1, x5 => if x5 < (x0.length : Int) then (if 0 ≤ x5 then ((Ej.f (rd x0 x5) (-1) (wrap64 (x1 - 1))).bind fun t102 => (if t102 = true then (Cr.l0 k x0 x1 (wrap64 (x5 + 1))) else (some false))) else (none)) else ((Ej.f (x0.length : Int) 1 120).bind fun t103 => (some t103))
def Cr.f (k : Nat) (l0 : List Int) (a1 : Int) : Option (Bool) := Cr.l0 k l0 a1 0
theorem Cr.mono_l : ∀ k, (∀ y0 y1 y2, LeO (Cr.l0 k y0 y1 y2) (Cr.l0 (k + 1) y0 y1 y2))
 | 0 => fun _ _ _ r h => by simp [Cr.l0] at h
 | k + 1 => by
  have ih0 := Cr.mono_l k
  ·
   intro y0 y1 y2
   unfold Cr.l0
   repeat' first | (with_reducible first | exact ih0 _ _ _ | exact LeO.refl _ | exact LeO.none _ | refine LeO.ite ?_ ?_ | refine LeO.bind ?_ (fun _ => ?_)) | exact ih0 _ _ _ | exact LeO.none _ | refine LeO.ite ?_ ?_ | refine LeO.bind ?_ (fun _ => ?_)
theorem Cr.mono : ∀ a0 a1 k, LeO (Cr.f k a0 a1) (Cr.f (k + 1) a0 a1) := by
 intro a0 a1 k
 have ih0 := Cr.mono_l k
 unfold Cr.f
 repeat' first | (with_reducible first | exact ih0 _ _ _ | exact LeO.refl _ | exact LeO.none _ | refine LeO.ite ?_ ?_ | refine LeO.bind ?_ (fun _ => ?_)) | exact ih0 _ _ _ | exact LeO.none _ | refine LeO.ite ?_ ?_ | refine LeO.bind ?_ (fun _ => ?_)
theorem Cr.calls (k : Nat) (A0 : Option Addr) (c0 : Nat) (l0 : List Int) (a1 : Int) (r : Bool) (w : World) (hr0 : Kd.C (Kd.int .i64) w A0 l0.length l0) (hc0 : l0.length ≤ c0) (h : Cr.f k l0 a1 = some r) :
    Calls Tryz.prog 58 #[.slice A0 l0.length c0, .int .i64 a1] w fun e w' => e = .returned (.bool r) ∧ Ct w w' := by
 have HR0 := Aa.mk hr0
 have HC0 := Aa.mk hc0
 clear hr0 hc0
 have H := h
 clear h
 unfold Cr.f at H
 have H' := Aa.mk H
 clear H
 go_enter Tryz.func58, Tryz.ntmps58
 go_wp2
 go_loopg [5] k (fun kq v5 w' => ∃ (x5_1 : Int), v5 = .int .i64 x5_1 ∧ Aa (Cr.l0 kq l0 a1 x5_1 = some r) ∧ Aa (kq ≤ k) ∧ Ct w w')
 case atStart => exact ⟨(0), zF, H', ⟨Nat.le_refl _⟩, by repeat (first | exact Ct.refl _ | apply Ct.step)⟩
 clear H'
 obtain ⟨x5_1, rfl, HA, HK1, ⟨m1, rfl⟩⟩ := hrel
 cases gk with
 | zero => exact absurd HA.out (by simp [Cr.l0])
 | succ k1 =>
  have H := HA.out
  clear HA
  simp only [Cr.l0] at H
  by_cases c3 : x5_1 < (l0.length : Int)
  case neg =>
   rw [if_neg c3] at H
   have c3b0 := decide_eq_false c3
   clear c3
   obtain ⟨t103, A7, H⟩ := zO H
   try dsimp only at H
   obtain rfl := Option.some.inj H
   go_wp2_with (first | (refine gK 36 ?_; refine gL 22 Tryz.func36 #[.int .i64 (l0.length : Int), .int .i64 1, .int .i64 120] ?_; (with_reducible refine (Ej.calls (l0.length : Int) 1 120 t103 _ A7.out).mono ?_); rintro e w' ⟨rfl, ⟨nd, rfl⟩⟩; refine ⟨_, rfl, ?_⟩))
   go_ret
   exact ⟨by first | rfl | (simp; done) | (simp [*]; done), by repeat (first | exact Ct.refl _ | apply Ct.step)⟩
  rw [if_pos c3] at H
  have c3b0 := decide_eq_true c3
  clear c3
  by_cases c4 : 0 ≤ x5_1
  case neg => rw [if_neg c4] at H; exact absurd H (by simp)
  rw [if_pos c4] at H
  have c4b0 := decide_eq_true c4
  clear c4
  obtain ⟨t102, A5, H⟩ := zO H
  try dsimp only at H
  by_cases c6 : t102 = true
  ·
   subst c6
   rw [if_pos rfl] at H
   have H' := Aa.mk H
   clear H
   have p101 : 0 ≤ (x5_1 : Int) := zD
   have q101 : x5_1 < (l0.length : Int) := zD
   obtain ⟨ad101, e101, hx101_0⟩ := Kd.Cv HR0.out x5_1 p101 q101
   cases e101
   replace p101 := eq_true p101
   replace q101 := eq_true q101
   go_wp2_with (first | (refine gK 36 ?_; refine gL 18 Tryz.func36 #[.int .i64 (rd l0 x5_1), .int .i64 (-1), .int .i64 (wrap64 (a1 - 1))] ?_; (with_reducible refine (Ej.calls (rd l0 x5_1) (-1) (wrap64 (a1 - 1)) true _ A5.out).mono ?_); rintro e w' ⟨rfl, ⟨nd, rfl⟩⟩; refine ⟨_, rfl, ?_⟩))
   go_roundg k1
   case measure => have := HK1.out; omega
   case rel => exact ⟨(wrap64 (x5_1 + 1)), zF, H', ⟨by have := HK1.out; omega⟩, by repeat (first | exact Ct.refl _ | apply Ct.step)⟩
  replace c6 := Bool.eq_false_iff.mpr c6
  subst c6
  rw [if_neg zf] at H
  obtain rfl := Option.some.inj H
  have p101 : 0 ≤ (x5_1 : Int) := zD
  have q101 : x5_1 < (l0.length : Int) := zD
  obtain ⟨ad101, e101, hx101_0⟩ := Kd.Cv HR0.out x5_1 p101 q101
  cases e101
  replace p101 := eq_true p101
  replace q101 := eq_true q101
  go_wp2_with (first | (refine gK 36 ?_; refine gL 18 Tryz.func36 #[.int .i64 (rd l0 x5_1), .int .i64 (-1), .int .i64 (wrap64 (a1 - 1))] ?_; (with_reducible refine (Ej.calls (rd l0 x5_1) (-1) (wrap64 (a1 - 1)) false _ A5.out).mono ?_); rintro e w' ⟨rfl, ⟨nd, rfl⟩⟩; refine ⟨_, rfl, ?_⟩))
  go_ret
  exact ⟨by first | rfl | (simp; done) | (simp [*]; done), by repeat (first | exact Ct.refl _ | apply Ct.step)⟩
mutual
def Bo.j0 : Nat → List Int → Int → Bool → Option (List Int × Int)
 | 0, _, _, _ => none
 | k + 1, x0, x1, x17 => if x17 = true then (some (([] : List Int), 2)) else (Bo.l0 k x0 x1 0 (([] : List Int)))
def Bo.l0 : Nat → List Int → Int → Int → List Int → Option (List Int × Int)
 | 0, _, _, _, _ => none
 | k + 1, x0, x1, x7, x108000 => if x7 < x1 then ((Bn.f k x0 x7).bind fun t108 => (if t108 = 0 then (some (([] : List Int), 4)) else (if x108000.length < 17592186044416 then (Bo.l0 k x0 x1 (wrap64 (x7 + 1)) (x108000 ++ [t108])) else (none)))) else ((Cb.f k x108000).bind fun t112 => (if t112 = true then (some (x108000, 0)) else (some (([] : List Int), 3))))
end
def Bo.f (k : Nat) (l0 : List Int) (a1 : Int) : Option (List Int × Int) := (Ej.f a1 1 8).bind fun t102 => (if t102 = true then ((Cr.f k l0 a1).bind fun t103 => (Bo.j0 k l0 a1 (!t103))) else (Bo.j0 k l0 a1 true))
theorem Bo.mono_l : ∀ k, (∀ y0 y1 y2, LeO (Bo.j0 k y0 y1 y2) (Bo.j0 (k + 1) y0 y1 y2)) ∧ (∀ y0 y1 y2 y3, LeO (Bo.l0 k y0 y1 y2 y3) (Bo.l0 (k + 1) y0 y1 y2 y3))
 | 0 => ⟨fun _ _ _ r h => by simp [Bo.j0] at h, fun _ _ _ _ r h => by simp [Bo.l0] at h⟩
 | k + 1 => by
  obtain ⟨ih0, ih1⟩ := Bo.mono_l k
  refine ⟨?_, ?_⟩ <;> intros <;> (first | unfold Bo.j0 | unfold Bo.l0) <;> repeat' first | (with_reducible first | exact ih0 _ _ _ | exact ih1 _ _ _ _ | exact Bn.mono _ _ _ | exact Cb.mono _ _ | exact Cr.mono _ _ _ | exact LeO.refl _ | exact LeO.none _ | refine LeO.ite ?_ ?_ | refine LeO.bind ?_ (fun _ => ?_)) | exact ih0 _ _ _ | exact ih1 _ _ _ _ | exact Bn.mono _ _ _ | exact Cb.mono _ _ | exact Cr.mono _ _ _ | exact LeO.none _ | refine LeO.ite ?_ ?_ | refine LeO.bind ?_ (fun _ => ?_)
theorem Bo.mono : ∀ a0 a1 k, LeO (Bo.f k a0 a1) (Bo.f (k + 1) a0 a1) := by
 intro a0 a1 k
 obtain ⟨ih0, ih1⟩ := Bo.mono_l k
 unfold Bo.f
 repeat' first | (with_reducible first | exact ih0 _ _ _ | exact ih1 _ _ _ _ | exact Bn.mono _ _ _ | exact Cb.mono _ _ | exact Cr.mono _ _ _ | exact LeO.refl _ | exact LeO.none _ | refine LeO.ite ?_ ?_ | refine LeO.bind ?_ (fun _ => ?_)) | exact ih0 _ _ _ | exact ih1 _ _ _ _ | exact Bn.mono _ _ _ | exact Cb.mono _ _ | exact Cr.mono _ _ _ | exact LeO.none _ | refine LeO.ite ?_ ?_ | refine LeO.bind ?_ (fun _ => ?_)
theorem Bo.calls (k : Nat) (A0 : Option Addr) (c0 : Nat) (l0 : List Int) (a1 : Int) (r1 : List Int) (r2 : Int) (w : World) (hr0 : Kd.C (Kd.int .i64) w A0 l0.length l0) (hc0 : l0.length ≤ c0) (h : Bo.f k l0 a1 = some (r1, r2)) :
    Calls Tryz.prog 14 #[.slice A0 l0.length c0, .int .i64 a1] w fun e w' => ∃ v0_ : Value, e = .returned (.tuple #[.agg #[v0_], .int .i64 r2]) ∧ Kd.R (Kd.int .i64) 2 w' w.heap.size (fun _ => True) v0_ r1 ∧ Below w.heap.size w w' := by
 have hu26 := Tryz.underlying26
 have HR0 := Aa.mk hr0
 have HC0 := Aa.mk hc0
 clear hr0 hc0
 have HB := Aa.mk (Below.refl w.heap.size w)
 have H := h
 clear h
 unfold Bo.f at H
 have HC3 := Aa.mk H
 clear H
 go_enter Tryz.func14, Tryz.ntmps14
 go_upto_region 1 with (first | ((with_reducible refine Ay (N := 4) rfl ?_); refine Be zr (N := 4) zr (cs := #[.slice none 0 0]) (t := 26) zg ?_; intro gb101 hg w4 hbox hb; have n_ := y4 (Ab (zB) hb) (hbox) ((zS hg : w.heap.size ≤ gb101)) ((zS hg : w.heap.size ≤ gb101)); clear HB; obtain ⟨HB, BK101, GW101, GE101⟩ := n_; clear hb hbox hg))
 (try simp only [Act.put, List.setIfInBounds_toArray, List.set_cons_zero, List.set_cons_succ])
 go_cut [17] (fun v17 wc => ∃ (kq : Nat) (x17_2 : Bool), v17 = .bool x17_2 ∧ Aa (Bo.j0 kq l0 a1 x17_2 = some (r1, r2)) ∧ Aa (kq ≤ k) ∧ Aa (wc.heap[gb101]? = some (.cells #[(.slice none 0 0)] 26 (0, 0))) ∧ Aa (Below w.heap.size w wc))
 case first =>
  have H := HC3.out
  clear HC3
  obtain ⟨t102, A5, H⟩ := zO H
  try dsimp only at H
  by_cases c6 : t102 = true
  ·
   subst c6
   rw [if_pos rfl] at H
   obtain ⟨t103, A7, H⟩ := zO H
   try dsimp only at H
   have H' := Aa.mk H
   clear H
   go_wp2_with (first | (refine gK 36 ?_; refine gL 10 Tryz.func36 #[.int .i64 a1, .int .i64 1, .int .i64 8] ?_; (with_reducible refine (Ej.calls a1 1 8 true _ A5.out).mono ?_); rintro e w' ⟨rfl, ⟨nd, rfl⟩⟩; refine ⟨_, rfl, ?_⟩) | (go_at_call 58; (with_reducible refine (Cr.calls k _ _ l0 a1 t103 _ ?side1 HC0.out A7.out).mono ?_); (case side1 => exact zC (Kd.Bh HR0.out (zB))); rintro e w' ⟨rfl, ⟨nd, rfl⟩⟩))
   go_meet
   case rel => exact ⟨_, (!t103), zF, H', ⟨by first | omega | exact Nat.le_refl _⟩, ⟨zG BK101.out⟩, ⟨zB⟩⟩
  replace c6 := Bool.eq_false_iff.mpr c6
  subst c6
  rw [if_neg zf] at H
  have H' := Aa.mk H
  clear H
  go_wp2_with (first | (refine gK 36 ?_; refine gL 10 Tryz.func36 #[.int .i64 a1, .int .i64 1, .int .i64 8] ?_; (with_reducible refine (Ej.calls a1 1 8 false _ A5.out).mono ?_); rintro e w' ⟨rfl, ⟨nd, rfl⟩⟩; refine ⟨_, rfl, ?_⟩))
  go_meet
  case rel => exact ⟨_, (true), zF, H', ⟨by first | omega | exact Nat.le_refl _⟩, ⟨zG BK101.out⟩, ⟨zB⟩⟩
 clear HC3
 obtain ⟨kq, x17_2, rfl, HA, HJ2, BK101, HB⟩ := hcut
 cases kq with
 | zero => exact absurd HA.out (by simp [Bo.j0])
 | succ kj2 =>
  have H := HA.out
  clear HA
  simp only [Bo.j0] at H
  by_cases c8 : x17_2 = true
  ·
   subst c8
   rw [if_pos rfl] at H
   simp only [Option.some.injEq, Prod.mk.injEq] at H
   obtain ⟨rfl, rfl⟩ := H
   obtain ⟨hcz9_0, hfz9_0⟩ := zw BK101.out
   go_wp2
   refine bodyPost_ret (Fw rfl _ _ gb101 26 #[.slice none 0 0] (0, 0) _ rfl (by (with_reducible repeat (first | refine Am ?_ _ | refine Ag ?_ | refine Ak ?_ _)); refine Cl (cs := #[.slice none 0 0]) ?_ 0 _ rfl; (with_reducible repeat (first | refine Am ?_ _ | refine Ag ?_ | refine Ak ?_ _)); exact BK101.out) Tryz.underlying26 rfl zk) rfl ?_
   exact ⟨_, zE, zN, zB⟩
  replace c8 := Bool.eq_false_iff.mpr c8
  subst c8
  rw [if_neg zf] at H
  obtain ⟨y104, hy104⟩ : ∃ y_ : List Int, y_ = (([] : List Int)) := ⟨_, rfl⟩
  replace H : (Bo.l0 kj2 l0 a1 0 y104) = some (r1, r2) := zH hy104
  have Ny104 := Aa.mk hy104
  clear hy104
  have H' := Aa.mk H
  clear H
  go_wp2_with (first | ((with_reducible refine Ay (N := 19) rfl ?_); refine Kd.Kv (Kd.int .i64) _ 2 ?hg (N := 19) ?hd (xs := ([] : List Int)) (inner := []) (ok := fun _ => True) (okp := fun _ => True) ?hr ?hp (fun _ hk => hk) trivial (Below.refl _ _) (Nat.le_refl _) (by simp) ?_; (case hd => rfl); (case hg => rfl); (case hr => first | (go_simp; done) | (go_simp; rfl)); (case hp => exact (Dk.none _ _)); intro v105 w10 ho11 hb hg_ hnew_; clear hg_ hnew_; (first | rw [← Ny104.out] at ho11 | (simp only [Int.reduceToNat] at ho11; rw [← Ny104.out] at ho11)); have n_ := y3 (Kd.Bk ho11 (An (zB))) (zb BK101.out hb) (Ab (zB) hb); clear BK101 HB; obtain ⟨HO106, BK101, HB⟩ := n_; clear hb ho11; obtain ⟨Ao12, co12, eo12⟩ := Kd.Bb HO106.out; subst eo12) | ((with_reducible refine Ay (N := 6) rfl ?_); refine Be zr (N := 6) zr (cs := #[.slice none 0 0]) (t := 26) zg ?_; intro gb107 hg w13 hbox hb; have n_ := y8 (Kd.Ap (zR HO106.out) hb) (zb BK101.out hb) (Ab (zB) hb) (hbox) ((zS hg : w.heap.size ≤ gb107)) ((zS hg : w.heap.size ≤ gb107)) ((zL hg BK101.out : gb101 ≠ gb107)) ((zM hg BK101.out : gb107 ≠ gb101)); clear HO106 BK101 HB; obtain ⟨HO106, BK101, HB, BK107, GW107, GE107, NB101_107, NB107_101⟩ := n_; clear hb hbox hg; have hnb14 := NB107_101.out; have hnc14 := NB101_107.out; obtain ⟨hcz15_0, hfz15_0⟩ := zw BK107.out))
  go_loopg [7] kj2 (fun kq v7 w' => ∃ (x7_2 : Int) (x108000_2 : List Int) (u108000 : Value), v7 = .int .i64 x7_2 ∧ Aa (Bo.l0 kq l0 a1 x7_2 x108000_2 = some (r1, r2)) ∧ Aa (kq ≤ kj2) ∧ Aa (Kd.R (Kd.int .i64) 2 w' w.heap.size (fun _ => True) u108000 x108000_2) ∧ Aa (w'.heap[gb101]? = some (.cells #[(.slice none 0 0)] 26 (0, 0))) ∧ Aa (w'.heap[gb107]? = some (.cells #[u108000] 26 (0, 0))) ∧ Aa (Below w.heap.size w w'))
  case atStart => exact ⟨(0), (y104), (.slice Ao12 y104.length co12), zF, H', ⟨Nat.le_refl _⟩, ⟨by refine zR ?_; exact Kd.Ai (Kd.Dv (p := ⟨gb107, 0, none⟩) (Kd.Cj HO106.out BK107.out (by decide)) (fun _ hk => hk.2) (.slice Ao12 y104.length co12)) (fun _ hk => trivial)⟩, ⟨by refine zG ?_; refine Ce ?_ NB101_107.out _; refine zG ?_; exact BK101.out⟩, ⟨by (with_reducible repeat (first | refine Am ?_ _ | refine Ag ?_ | refine Ak ?_ _)); refine Cl (cs := #[.slice none 0 0]) ?_ 0 _ rfl; (with_reducible repeat (first | refine Am ?_ _ | refine Ag ?_ | refine Ak ?_ _)); exact BK107.out⟩, ⟨zB⟩⟩
  clear H'
  try clear c8
  try clear hcz15_0
  try clear hfz15_0
  obtain ⟨x7_2, x108000_2, u108000, rfl, HA, HK2, HO_108000, BK101, BK107, HB⟩ := hrel
  cases gk with
  | zero => exact absurd HA.out (by simp [Bo.l0])
  | succ k2 =>
   have H := HA.out
   clear HA
   simp only [Bo.l0] at H
   by_cases c16 : x7_2 < a1
   ·
    rw [if_pos c16] at H
    have c16b0 := decide_eq_true c16
    clear c16
    obtain ⟨t108, A17, H⟩ := zO H
    try dsimp only at H
    by_cases c18 : t108 = 0
    ·
     rw [if_pos c18] at H
     have c18b0 : (t108 == 0) = true := beq_iff_eq.mpr c18
     have c18b1 : (t108 != 0) = false := bne_eq_false_iff_eq.mpr c18
     clear c18
     simp only [Option.some.injEq, Prod.mk.injEq] at H
     obtain ⟨rfl, rfl⟩ := H
     go_wp2_with (first | (refine gK 59 ?_; refine gL 28 Tryz.func59 #[.slice A0 l0.length c0, .int .i64 x7_2] ?_; (with_reducible refine (Bn.calls k2 _ _ l0 x7_2 t108 _ ?side1 HC0.out A17.out).mono ?_); (case side1 => exact zC (Kd.Bh HR0.out HB.out)); rintro e w19 ⟨rfl, hb⟩; refine ⟨_, rfl, ?_⟩; have n_ := y4 (Kd.Ap (zR HO_108000.out) hb) (zb BK101.out hb) (zb BK107.out hb) (Ab (zB) hb); clear HO_108000 BK101 BK107 HB; obtain ⟨HO_108000, BK101, BK107, HB⟩ := n_; (try clear hb); have hnb20 := NB101_107.out; have hnc20 := NB107_101.out; obtain ⟨hcz21_0, hfz21_0⟩ := zw BK101.out))
     refine bodyPost_ret (Fw rfl _ _ gb101 26 #[.slice none 0 0] (0, 0) _ rfl (by (with_reducible repeat (first | refine Am ?_ _ | refine Ag ?_ | refine Ak ?_ _)); refine Cl (cs := #[.slice none 0 0]) ?_ 0 _ rfl; (with_reducible repeat (first | refine Am ?_ _ | refine Ag ?_ | refine Ak ?_ _)); exact BK101.out) Tryz.underlying26 rfl zk) rfl ?_
     exact ⟨_, zE, zN, zB⟩
    rw [if_neg c18] at H
    have c18b0 : (t108 == 0) = false := beq_eq_false_iff_ne.mpr c18
    have c18b1 : (t108 != 0) = true := bne_iff_ne.mpr c18
    by_cases c22 : x108000_2.length < 17592186044416
    case neg => rw [if_neg c22] at H; exact absurd H (by simp)
    rw [if_pos c22] at H
    have LMc22 := Aa.mk c22
    clear c22
    obtain ⟨y109, hy109⟩ : ∃ y_ : List Int, y_ = (x108000_2 ++ [t108]) := ⟨_, rfl⟩
    replace H : (Bo.l0 k2 l0 a1 (wrap64 (x7_2 + 1)) y109) = some (r1, r2) := zH hy109
    have Ny109 := Aa.mk hy109
    clear hy109
    have H' := Aa.mk H
    clear H
    go_wp2_with (first | (refine gK 59 ?_; refine gL 28 Tryz.func59 #[.slice A0 l0.length c0, .int .i64 x7_2] ?_; (with_reducible refine (Bn.calls k2 _ _ l0 x7_2 t108 _ ?side1 HC0.out A17.out).mono ?_); (case side1 => exact zC (Kd.Bh HR0.out HB.out)); rintro e w23 ⟨rfl, hb⟩; refine ⟨_, rfl, ?_⟩; have n_ := y4 (Kd.Ap (zR HO_108000.out) hb) (zb BK101.out hb) (zb BK107.out hb) (Ab (zB) hb); clear HO_108000 BK101 BK107 HB; obtain ⟨HO_108000, BK101, BK107, HB⟩ := n_; (try clear hb); have hnb24 := NB107_101.out; have hnc24 := NB101_107.out; obtain ⟨hcz25_0, hfz25_0⟩ := zw BK107.out) | ((with_reducible refine Dp (b := .append) (xs := #[.tmp 33, .tmp 35]) rfl ?_); at_builtin; refine Kd.Gk (Kd.int .i64) (w0 := w) w.heap.size rfl (.tmp 33) (.tmp 35) 24 2 (.int .i64 0) 8 rfl Tryz.underlying24 Gb rfl (by decide) (by omega) u108000 x108000_2 t108 [.int .i64 t108] (fun _ => True) (fun _ => False) rfl rfl ?aP (fun _ hk => hk.elim) ?aF ?aO ?aB ?aS ?aL ?_; (case aP => exact rfl); (case aB => exact (zB)); (case aF => exact (fun _ _ => trivial)); (case aO => exact (zR HO_108000.out)); (case aS => exact (An (zB))); (case aL => have := LMc22.out; omega); intro v110 w26 ho hb hg hat; rw [← Ny109.out] at ho; have n_ := y4 (Cm (g := gb101) (o := .cells #[.slice none 0 0] 26 (0, 0)) (zG BK101.out) hg (Kd.Em HO_108000.out BK101.out (by decide))) (Cm (g := gb107) (o := .cells #[u108000] 26 (0, 0)) (zG BK107.out) hg (Kd.Em HO_108000.out BK107.out (by decide))) (hb) (ho); clear BK101 BK107 HB HO_108000; obtain ⟨BK101, BK107, HB, HO111⟩ := n_; clear ho hb hg hat; obtain ⟨Ao27, co27, eo27⟩ := Kd.Bb HO111.out; subst eo27; obtain ⟨hcz28_0, hfz28_0⟩ := zw BK107.out))
    go_roundg k2
    case measure => have := HJ2.out; have := HK2.out; omega
    case rel => exact ⟨(wrap64 (x7_2 + 1)), (y109), (.slice Ao27 y109.length co27), zF, H', ⟨by have := HJ2.out; have := HK2.out; omega⟩, ⟨by refine zR ?_; exact Kd.Ai (Kd.Dv (p := ⟨gb107, 0, none⟩) (Kd.Cj HO111.out BK107.out (by decide)) (fun _ hk => hk.2) (.slice Ao27 y109.length co27)) (fun _ hk => trivial)⟩, ⟨by refine zG ?_; refine Ce ?_ NB101_107.out _; refine zG ?_; exact BK101.out⟩, ⟨by (with_reducible repeat (first | refine Am ?_ _ | refine Ag ?_ | refine Ak ?_ _)); refine Cl (cs := #[u108000]) ?_ 0 _ rfl; (with_reducible repeat (first | refine Am ?_ _ | refine Ag ?_ | refine Ak ?_ _)); exact BK107.out⟩, ⟨zB⟩⟩
   rw [if_neg c16] at H
   have c16b0 := decide_eq_false c16
   clear c16
   obtain ⟨t112, A29, H⟩ := zO H
   try dsimp only at H
   by_cases c30 : t112 = true
   ·
    subst c30
    rw [if_pos rfl] at H
    simp only [Option.some.injEq, Prod.mk.injEq] at H
    obtain ⟨rfl, rfl⟩ := H
    have hnb31 := NB107_101.out
    have hnc31 := NB101_107.out
    obtain ⟨hcz32_0, hfz32_0⟩ := zw BK107.out
    obtain ⟨Ao33, co33, eo33⟩ := Kd.Bb HO_108000.out
    subst eo33
    go_wp2_with (first | (refine gK 35 ?_; refine gL 39 Tryz.func35 #[.agg #[.slice Ao33 x108000_2.length co33]] ?_; (with_reducible refine (Cb.calls k2 _ _ x108000_2 true _ ?side1 ?side2 A29.out).mono ?_); (case side1 => exact zC (Kd.Ae HO_108000.out).2.2); (case side2 => exact (Kd.Ae HO_108000.out).2.1); rintro e w34 ⟨rfl, hb⟩; refine ⟨_, rfl, ?_⟩; have n_ := y4 (Kd.Ap (zR HO_108000.out) hb) (zb BK101.out hb) (zb BK107.out hb) (Ab (zB) hb); clear HO_108000 BK101 BK107 HB; obtain ⟨HO_108000, BK101, BK107, HB⟩ := n_; (try clear hb); obtain ⟨hcz35_0, hfz35_0⟩ := zw BK107.out; obtain ⟨hcz36_0, hfz36_0⟩ := zw BK101.out))
    refine bodyPost_ret (Fw rfl _ _ gb101 26 #[.slice Ao33 x108000_2.length co33] (0, 0) _ rfl (by (with_reducible repeat (first | refine Am ?_ _ | refine Ag ?_ | refine Ak ?_ _)); refine Cl (cs := #[.slice none 0 0]) ?_ 0 _ rfl; (with_reducible repeat (first | refine Am ?_ _ | refine Ag ?_ | refine Ak ?_ _)); exact BK101.out) Tryz.underlying26 rfl zk) rfl ?_
    exact ⟨_, zE, by refine zR ?_; exact Kd.Ai (Kd.Dv (p := ⟨gb101, 0, none⟩) (Kd.Cj HO_108000.out BK101.out (by decide)) (fun _ hk => hk.2) (.slice Ao33 x108000_2.length co33)) (fun _ hk => trivial), zB⟩
   replace c30 := Bool.eq_false_iff.mpr c30
   subst c30
   rw [if_neg zf] at H
   simp only [Option.some.injEq, Prod.mk.injEq] at H
   obtain ⟨rfl, rfl⟩ := H
   have hnb37 := NB107_101.out
   have hnc37 := NB101_107.out
   obtain ⟨hcz38_0, hfz38_0⟩ := zw BK107.out
   obtain ⟨Ao39, co39, eo39⟩ := Kd.Bb HO_108000.out
   subst eo39
   go_wp2_with (first | (refine gK 35 ?_; refine gL 39 Tryz.func35 #[.agg #[.slice Ao39 x108000_2.length co39]] ?_; (with_reducible refine (Cb.calls k2 _ _ x108000_2 false _ ?side1 ?side2 A29.out).mono ?_); (case side1 => exact zC (Kd.Ae HO_108000.out).2.2); (case side2 => exact (Kd.Ae HO_108000.out).2.1); rintro e w40 ⟨rfl, hb⟩; refine ⟨_, rfl, ?_⟩; have n_ := y4 (Kd.Ap (zR HO_108000.out) hb) (zb BK101.out hb) (zb BK107.out hb) (Ab (zB) hb); clear HO_108000 BK101 BK107 HB; obtain ⟨HO_108000, BK101, BK107, HB⟩ := n_; (try clear hb); obtain ⟨hcz41_0, hfz41_0⟩ := zw BK101.out))
   refine bodyPost_ret (Fw rfl _ _ gb101 26 #[.slice none 0 0] (0, 0) _ rfl (by (with_reducible repeat (first | refine Am ?_ _ | refine Ag ?_ | refine Ak ?_ _)); refine Cl (cs := #[.slice none 0 0]) ?_ 0 _ rfl; (with_reducible repeat (first | refine Am ?_ _ | refine Ag ?_ | refine Ak ?_ _)); exact BK101.out) Tryz.underlying26 rfl zk) rfl ?_
   exact ⟨_, zE, zN, zB⟩
def Ar.l0 : Nat → Int → Int → List Int → Int → Int → List Int → List Int → Option (List Int × List Int)
 | 0, _, _, _, _, _, _, _ => none
 | k + 1, x18, x19, x107000, x107001, x107002, x113000, x117000 => if x19 < x18 then (if 0 ≤ x19 then (if x19 < (x117000.length : Int) then ((Bf.f x107000 x107001 x107002 4).bind fun bt118 => ((Bf.f x107000 bt118.2.1 bt118.2.2 8).bind fun bt121 => (Ar.l0 k x18 (wrap64 (x19 + 1)) x107000 bt121.2.1 bt121.2.2 x113000 (x117000.set (x19 : Int).toNat (mx (mn (wrap64 ((wrap64 ((rd x117000 x19) + bt118.1)) - (wrap64 (Int.tdiv bt121.1 7)))) 40) 1))))) else (none)) else (none)) else ((Bf.f x107000 x107001 x107002 4).bind fun bt125 => (if bt125.1 = 0 then ((Dt.f x117000).bind fun t128 => ((Bf.f x107000 bt125.2.1 bt125.2.2 t128).bind fun bt129 => (if 0 ≤ (wrap64 (1 + bt129.1)) then (if (wrap64 (1 + bt129.1)) ≤ (x117000.length : Int) then ((Bm.f k x107000 bt129.2.1 bt129.2.2 x113000).bind fun bt135 => ((Bm.f k x107000 bt135.2.1 bt135.2.2 (x117000.take ((wrap64 (1 + bt129.1)) : Int).toNat)).bind fun bt140 => (some (bt135.1, bt140.1)))) else (none)) else (none)))) else (if bt125.1 = 1 then ((Du.f k x107000 bt125.2.1 bt125.2.2).bind fun bt145 => ((Bm.f k x107000 bt145.2.1 bt145.2.2 x113000).bind fun bt150 => ((Bm.f k x107000 bt150.2.1 bt150.2.2 bt145.1).bind fun bt155 => (some (bt150.1, bt155.1))))) else ((Bm.f k x107000 bt125.2.1 bt125.2.2 x113000).bind fun bt160 => ((Bm.f k x107000 bt160.2.1 bt160.2.2 x117000).bind fun bt165 => (some (bt160.1, bt165.1)))))))
def Ar.f (k : Nat) (l0 : List Int) : Option (List Int × List Int) := (Bj.f k l0).bind fun bt103 => ((Du.f k bt103.1 bt103.2.1 bt103.2.2).bind fun bt107 => ((Fc.f bt107.1).bind fun t113 => (Ar.l0 k (t113.length : Int) 0 bt103.1 bt107.2.1 bt107.2.2 bt107.1 t113)))
theorem Ar.mono_l : ∀ k, (∀ y0 y1 y2 y3 y4 y5 y6, LeO (Ar.l0 k y0 y1 y2 y3 y4 y5 y6) (Ar.l0 (k + 1) y0 y1 y2 y3 y4 y5 y6))
 | 0 => fun _ _ _ _ _ _ _ r h => by simp [Ar.l0] at h
 | k + 1 => by
  have ih0 := Ar.mono_l k
  ·
   intro y0 y1 y2 y3 y4 y5 y6
   unfold Ar.l0
   repeat' first | (with_reducible first | exact ih0 _ _ _ _ _ _ _ | exact Bm.mono _ _ _ _ _ | exact Du.mono _ _ _ _ | exact Bj.mono _ _ | exact LeO.refl _ | exact LeO.none _ | refine LeO.ite ?_ ?_ | refine LeO.bind ?_ (fun _ => ?_)) | exact ih0 _ _ _ _ _ _ _ | exact Bm.mono _ _ _ _ _ | exact Du.mono _ _ _ _ | exact Bj.mono _ _ | exact LeO.none _ | refine LeO.ite ?_ ?_ | refine LeO.bind ?_ (fun _ => ?_)
theorem Ar.mono : ∀ a0 k, LeO (Ar.f k a0) (Ar.f (k + 1) a0) := by
 intro a0 k
 have ih0 := Ar.mono_l k
 unfold Ar.f
 repeat' first | (with_reducible first | exact ih0 _ _ _ _ _ _ _ | exact Bm.mono _ _ _ _ _ | exact Du.mono _ _ _ _ | exact Bj.mono _ _ | exact LeO.refl _ | exact LeO.none _ | refine LeO.ite ?_ ?_ | refine LeO.bind ?_ (fun _ => ?_)) | exact ih0 _ _ _ _ _ _ _ | exact Bm.mono _ _ _ _ _ | exact Du.mono _ _ _ _ | exact Bj.mono _ _ | exact LeO.none _ | refine LeO.ite ?_ ?_ | refine LeO.bind ?_ (fun _ => ?_)
def Ar.T7 : Bool × List (List Nat × List Nat) := (true, [([], []), ([0], [0]), ([], []), ([], []), ([3], [3]), ([], []), ([4, 5], [4, 5]), ([6], [6]), ([], []), ([8], [8]), ([7, 9], [7, 9]), ([], []), ([11, 9], [11]), ([12], [12]), ([10, 13], [10, 13]), ([14], [14]), ([15], [15]), ([1, 2, 0, 1, 2, 3, 4, 5, 6, 7, 8, 9, 10, 11, 12, 13, 14, 15, 16], [1, 2]), ([17, 16, 12, 0, 1, 2, 3, 4, 5, 6, 7, 8, 9, 10, 11, 12, 13, 14, 15, 16], [16, 17])])
def Ar.B7 : List Nat := [0, 1, 0, 0, 8, 0, 56, 120, 0, 256, 1016, 0, 2816, 6912, 16376, 32760, 65528, 131071, 262143]
theorem Ar.tab7 : rtab .any (Lz Tryz.f15 7) = Ar.T7 := by kernel_rfl
theorem Ar.bits7 : Gh Ar.T7.2 Ar.B7 = true := by kernel_rfl
def Ar.T11 : Bool × List (List Nat × List Nat) := (true, [([], []), ([0], [0]), ([], []), ([], []), ([3], [3]), ([2, 4, 4], [2, 4]), ([5], [5]), ([1, 6], [1, 6]), ([0, 1, 2, 3, 4, 5, 6, 7], []), ([8, 7, 5, 0, 1, 2, 3, 4, 5, 6, 7], [7, 8])])
def Ar.B11 : List Nat := [0, 1, 0, 0, 8, 28, 60, 127, 255, 511]
theorem Ar.tab11 : rtab .any (Lz Tryz.f15 11) = Ar.T11 := by kernel_rfl
theorem Ar.bits11 : Gh Ar.T11.2 Ar.B11 = true := by kernel_rfl
def Ar.T14 : Bool × List (List Nat × List Nat) := (true, [([], []), ([], []), ([0, 1], [0, 1]), ([], []), ([], []), ([3, 4, 2], [3, 4]), ([2, 5, 0, 1, 2], [2]), ([5, 6, 0, 1, 2, 3, 4, 5, 6], [5])])
def Ar.B14 : List Nat := [0, 0, 3, 0, 0, 31, 63, 127]
theorem Ar.tab14 : rtab .any (Lz Tryz.f15 14) = Ar.T14 := by kernel_rfl
theorem Ar.bits14 : Gh Ar.T14.2 Ar.B14 = true := by kernel_rfl
end Go.Proofs.YtliepcfgcglcmaaGreat.P
end
