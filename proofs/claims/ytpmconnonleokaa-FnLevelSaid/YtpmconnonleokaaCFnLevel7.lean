/- Greedy turns and deadline turns have their shares, least differences are not greater than those of greedy turns, and doubled turns are balanced. -/
import Derived.Test.YtpmconnonleokaaCFnLevel6
section
namespace Go.Proofs.Ytpmconnonleokaa.P
open Go.RowKit Go.Proofs.YtpmconnonleokaaW.PrintWords Go.Proofs.YtpmconnonleokaaW.PrintLast Go.Proofs.YtpmconnonleokaaW.PrintMore
attribute [local go_sem] max2_int min2_int max_two min_two max_three min_three max_four min_four   -- for this text's walks alone
set_option linter.unusedVariables false
set_option linter.unusedSimpArgs false
set_option maxHeartbeats 8000000 in
set_option maxRecDepth 100000 in
theorem spec_DrawDifferenceAt.calls (k : Nat) (A0 : Option Addr) (c0 : Nat) (l0 : List Int) (r1 : List Int) (r2 : Int) (r3 : Int) (w : World) (hr0 : Kd.C (Kd.int .u8) w A0 l0.length l0) (hc0 : l0.length ≤ c0) (h : spec_DrawDifferenceAt.f k l0 = some (r1, r2, r3)) :
    Calls Try.prog 22 #[.slice A0 l0.length c0] w fun e w' => ∃ v0_ : Value, e = .returned (.tuple #[v0_, .int .i64 r2, .int .i64 r3]) ∧ Kd.R (Kd.int .i64) 2 w' w.heap.size (fun _ => True) v0_ r1 ∧ Below w.heap.size w w' := by
 have HR0 := Aside0.mk hr0
 have HC0 := Aside0.mk hc0
 clear hr0 hc0
 have HB := Aside0.mk (Below.refl w.heap.size w)
 have H : ((spec_l01From.f k l0).bind fun bt101 => ((spec_l01Pick.f bt101.1 bt101.2.1 bt101.2.2 (([10, 30, 60] : List Int))).bind fun bt108 => ((spec_l07Draw.f k bt101.1 bt108.2.1 bt108.2.2 bt108.1).bind fun bt111 => ((spec_l01Near.f bt101.1 bt111.2.1 bt111.2.2 (bt111.1.length : Int)).bind fun bt116 => ((spec_l01Pick.f bt101.1 bt116.2.1 bt116.2.2 (([0, 1, 3] : List Int))).bind fun bt122 => ((spec_l01Near.f bt101.1 bt122.2.1 bt122.2.2 bt122.1).bind fun bt125 => (some (bt111.1, bt116.1, bt125.1)))))))) = some (r1, r2, r3) := h
 clear h
 replace H := Option.bind_eq_some_iff.mp H
 obtain ⟨⟨t101, t102, t103⟩, A20, H⟩ := H
 replace H : ((spec_l01Pick.f t101 t102 t103 (([10, 30, 60] : List Int))).bind fun bt108 => ((spec_l07Draw.f k t101 bt108.2.1 bt108.2.2 bt108.1).bind fun bt111 => ((spec_l01Near.f t101 bt111.2.1 bt111.2.2 (bt111.1.length : Int)).bind fun bt116 => ((spec_l01Pick.f t101 bt116.2.1 bt116.2.2 (([0, 1, 3] : List Int))).bind fun bt122 => ((spec_l01Near.f t101 bt122.2.1 bt122.2.2 bt122.1).bind fun bt125 => (some (bt111.1, bt116.1, bt125.1))))))) = some (r1, r2, r3) := H
 have A2 := Aside0.mk A20
 clear A20
 obtain ⟨y105, hy105⟩ : ∃ y_ : List Int, y_ = (([10, 30, 60] : List Int)) := ⟨_, rfl⟩
 replace H : ((spec_l01Pick.f t101 t102 t103 y105).bind fun bt108 => ((spec_l07Draw.f k t101 bt108.2.1 bt108.2.2 bt108.1).bind fun bt111 => ((spec_l01Near.f t101 bt111.2.1 bt111.2.2 (bt111.1.length : Int)).bind fun bt116 => ((spec_l01Pick.f t101 bt116.2.1 bt116.2.2 (([0, 1, 3] : List Int))).bind fun bt122 => ((spec_l01Near.f t101 bt122.2.1 bt122.2.2 bt122.1).bind fun bt125 => (some (bt111.1, bt116.1, bt125.1))))))) = some (r1, r2, r3) := zH hy105
 have Ny105 := Aside0.mk hy105
 clear hy105
 replace H := Option.bind_eq_some_iff.mp H
 obtain ⟨⟨t108, t109, t110⟩, A30, H⟩ := H
 replace H : ((spec_l07Draw.f k t101 t109 t110 t108).bind fun bt111 => ((spec_l01Near.f t101 bt111.2.1 bt111.2.2 (bt111.1.length : Int)).bind fun bt116 => ((spec_l01Pick.f t101 bt116.2.1 bt116.2.2 (([0, 1, 3] : List Int))).bind fun bt122 => ((spec_l01Near.f t101 bt122.2.1 bt122.2.2 bt122.1).bind fun bt125 => (some (bt111.1, bt116.1, bt125.1)))))) = some (r1, r2, r3) := H
 have A3 := Aside0.mk A30
 clear A30
 replace H := Option.bind_eq_some_iff.mp H
 obtain ⟨⟨t111, t114, t115⟩, A40, H⟩ := H
 replace H : ((spec_l01Near.f t101 t114 t115 (t111.length : Int)).bind fun bt116 => ((spec_l01Pick.f t101 bt116.2.1 bt116.2.2 (([0, 1, 3] : List Int))).bind fun bt122 => ((spec_l01Near.f t101 bt122.2.1 bt122.2.2 bt122.1).bind fun bt125 => (some (t111, bt116.1, bt125.1))))) = some (r1, r2, r3) := H
 have A4 := Aside0.mk A40
 clear A40
 replace H := Option.bind_eq_some_iff.mp H
 obtain ⟨⟨t116, t117, t118⟩, A50, H⟩ := H
 replace H : ((spec_l01Pick.f t101 t117 t118 (([0, 1, 3] : List Int))).bind fun bt122 => ((spec_l01Near.f t101 bt122.2.1 bt122.2.2 bt122.1).bind fun bt125 => (some (t111, t116, bt125.1)))) = some (r1, r2, r3) := H
 have A5 := Aside0.mk A50
 clear A50
 obtain ⟨y119, hy119⟩ : ∃ y_ : List Int, y_ = (([0, 1, 3] : List Int)) := ⟨_, rfl⟩
 replace H : ((spec_l01Pick.f t101 t117 t118 y119).bind fun bt122 => ((spec_l01Near.f t101 bt122.2.1 bt122.2.2 bt122.1).bind fun bt125 => (some (t111, t116, bt125.1)))) = some (r1, r2, r3) := zH hy119
 have Ny119 := Aside0.mk hy119
 clear hy119
 replace H := Option.bind_eq_some_iff.mp H
 obtain ⟨⟨t122, t123, t124⟩, A60, H⟩ := H
 replace H : ((spec_l01Near.f t101 t123 t124 t122).bind fun bt125 => (some (t111, t116, bt125.1))) = some (r1, r2, r3) := H
 have A6 := Aside0.mk A60
 clear A60
 replace H := Option.bind_eq_some_iff.mp H
 obtain ⟨⟨t125, t126, t127⟩, A70, H⟩ := H
 replace H : (some (t111, t116, t125)) = some (r1, r2, r3) := H
 have A7 := Aside0.mk A70
 clear A70
 simp only [Option.some.injEq, Prod.mk.injEq] at H
 obtain ⟨rfl, rfl, rfl⟩ := H
 go_enter Try.func22, Try.ntmps22
 go_wp2_with (first | ((with_reducible refine gate_callee (f := 41) rfl ?_); refine goesL_ (some 8) rfl rfl Try.func41 zk rfl #[.slice A0 l0.length c0] rfl zA ?_; (with_reducible refine (spec_l01From.calls k _ _ l0 t101 t102 t103 w _ ?side1 ?side2 ?side3 A2.out).mono ?_); (case side1 => exact zB); (case side2 => exact HR0.out); (case side3 => exact HC0.out); rintro e w8 ⟨g104, rfl, hi, hb, hb2⟩; refine ⟨_, rfl, ?_⟩; have n_ := y2 (hb) (hi); clear HB; obtain ⟨HB, HI104⟩ := n_; (try clear hb); (try clear hb2); (try clear hk); (try clear hi)) | ((with_reducible refine gate_dst (N := 11) rfl ?_); refine Kd.R_lit (Kd.int .i64) _ 2 ?hg (N := 11) ?hd (xs := ([10, 30, 60] : List Int)) (inner := [.int .i64 10, .int .i64 30, .int .i64 60]) (ok := fun _ => True) (okp := fun _ => True) ?hr ?hp (fun _ hk => hk) trivial (Below.refl _ _) (Nat.le_refl _) (by simp) ?_; (case hd => rfl); (case hg => rfl); (case hr => first | (go_simp; done) | (go_simp; rfl)); (case hp => exact (Reps.one (show Kd.M (Kd.int .i64) _ _ _ 10 [.int .i64 10] from rfl) (Reps.one (show Kd.M (Kd.int .i64) _ _ _ 30 [.int .i64 30] from rfl) (Reps.one (show Kd.M (Kd.int .i64) _ _ _ 60 [.int .i64 60] from rfl) (Reps.none _ _))))); intro v106 w9 ho10 hb hg_ hnew_; clear hg_ hnew_; (first | rw [← Ny105.out] at ho10 | (simp only [Int.reduceToNat] at ho10; rw [← Ny105.out] at ho10)); have n_ := y3 (Kd.R_lower ho10 (below_size (zB))) (IsS73.below (zX HI104.out) hb) (below_step (zB) hb); clear HI104 HB; obtain ⟨HO107, HI104, HB⟩ := n_; clear hb ho10; obtain ⟨Ao11, co11, eo11⟩ := Kd.R_slice HO107.out; subst eo11) | ((with_reducible refine gate_callee (f := 42) rfl ?_); refine goesL_ (some 12) rfl rfl Try.func42 zk rfl #[.pointer (some ⟨g104, 0, none⟩), .slice Ao11 y105.length co11] rfl zA ?_; (with_reducible refine (spec_l01Pick.calls g104 t101 t102 t103 _ _ y105 t108 t109 t110 w _ ?side1 ?side2 ?side3 ?side4 ?side5 A3.out).mono ?_); (case side1 => exact zX HI104.out); (case side2 => exact zB); (case side3 => exact zC (Kd.R_reads' HO107.out).2.2); (case side4 => exact (Kd.R_reads' HO107.out).2.1); (case side5 => exact far_slice (IsS73.own_ne HI104.out HO107.out (by decide))); rintro e w12 ⟨rfl, hi, hb, hk⟩; refine ⟨_, rfl, ?_⟩; have n_ := y3 (Kd.R_mono (Kd.R_keep (IsS73.apart (show IsS73 w _ g104 t101 t102 t103 from zX HI104.out) (zR HO107.out) (by decide)) hk (fun _ h => h.2)) (fun _ h => h.1)) (hb) (hi); clear HO107 HB HI104; obtain ⟨HO107, HB, HI104⟩ := n_; (try clear hb); (try clear hb2); (try clear hk); (try clear hi)) | ((with_reducible refine gate_callee (f := 48) rfl ?_); refine goesL_ (some 13) rfl rfl Try.func48 zk rfl #[.pointer (some ⟨g104, 0, none⟩), .int .i64 t108] rfl zA ?_; (with_reducible refine (spec_l07Draw.calls k g104 t101 t109 t110 t108 t111 t114 t115 w _ ?side1 ?side2 A4.out).mono ?_); (case side1 => exact zX HI104.out); (case side2 => exact zB); rintro e w13 ⟨v112, rfl, ho0, hi, hb, hk⟩; refine ⟨_, rfl, ?_⟩; have n_ := y4 (Kd.R_mono (Kd.R_told (Kd.R_oldK (IsS73.apart (show IsS73 w _ g104 t101 t109 t110 from zX HI104.out) (zR HO107.out) (by decide)) hk) (Kd.R_base ho0)) (fun _ h_ => h_.1)) (Kd.R_lower (Kd.R_new' ho0 (Kd.R_lt (zR HO107.out))) (below_size (zB))) (hb) (hi); clear HO107 HB HI104; obtain ⟨HO107, HO113, HB, HI104⟩ := n_; (try clear hb); (try clear hb2); (try clear hk); (try clear hi); (try clear ho0); obtain ⟨Ao14, co14, eo14⟩ := Kd.R_slice HO113.out; subst eo14) | ((with_reducible refine gate_callee (f := 40) rfl ?_); refine goesL_ (some 18) rfl rfl Try.func40 zk rfl #[.pointer (some ⟨g104, 0, none⟩), .int .i64 (t111.length : Int)] rfl zA ?_; (with_reducible refine (spec_l01Near.calls g104 t101 t114 t115 (t111.length : Int) t116 t117 t118 w _ ?side1 ?side2 A5.out).mono ?_); (case side1 => exact zX HI104.out); (case side2 => exact zB); rintro e w15 ⟨rfl, hi, hb, hk⟩; refine ⟨_, rfl, ?_⟩; have n_ := y4 (Kd.R_mono (Kd.R_keep (IsS73.apart (show IsS73 w _ g104 t101 t114 t115 from zX HI104.out) (zR HO107.out) (by decide)) hk (fun _ h => h.2)) (fun _ h => h.1)) (Kd.R_mono (Kd.R_keep (IsS73.apart (show IsS73 w _ g104 t101 t114 t115 from zX HI104.out) (zR HO113.out) (by decide)) hk (fun _ h => h.2)) (fun _ h => h.1)) (hb) (hi); clear HO107 HO113 HB HI104; obtain ⟨HO107, HO113, HB, HI104⟩ := n_; (try clear hb); (try clear hb2); (try clear hk); (try clear hi)) | ((with_reducible refine gate_dst (N := 21) rfl ?_); refine Kd.R_lit (Kd.int .i64) _ 2 ?hg (N := 21) ?hd (xs := ([0, 1, 3] : List Int)) (inner := [.int .i64 0, .int .i64 1, .int .i64 3]) (ok := fun _ => True) (okp := fun _ => True) ?hr ?hp (fun _ hk => hk) trivial (Below.refl _ _) (Nat.le_refl _) (by simp) ?_; (case hd => rfl); (case hg => rfl); (case hr => first | (go_simp; done) | (go_simp; rfl)); (case hp => exact (Reps.one (show Kd.M (Kd.int .i64) _ _ _ 0 [.int .i64 0] from rfl) (Reps.one (show Kd.M (Kd.int .i64) _ _ _ 1 [.int .i64 1] from rfl) (Reps.one (show Kd.M (Kd.int .i64) _ _ _ 3 [.int .i64 3] from rfl) (Reps.none _ _))))); intro v120 w16 ho17 hb hg_ hnew_; clear hg_ hnew_; (first | rw [← Ny119.out] at ho17 | (simp only [Int.reduceToNat] at ho17; rw [← Ny119.out] at ho17)); have n_ := y5 (Kd.R_elder' (zR HO107.out) (Kd.R_base ho17) hb) (Kd.R_elder' (zR HO113.out) (Kd.R_base ho17) hb) (Kd.R_lower (Kd.R_new' (Kd.R_new' ho17 (Kd.R_lt (zR HO107.out))) (Kd.R_lt (zR HO113.out))) (below_size (zB))) (IsS73.below (zX HI104.out) hb) (below_step (zB) hb); clear HO107 HO113 HI104 HB; obtain ⟨HO107, HO113, HO121, HI104, HB⟩ := n_; clear hb ho17; obtain ⟨Ao18, co18, eo18⟩ := Kd.R_slice HO121.out; subst eo18) | ((with_reducible refine gate_callee (f := 42) rfl ?_); refine goesL_ (some 22) rfl rfl Try.func42 zk rfl #[.pointer (some ⟨g104, 0, none⟩), .slice Ao18 y119.length co18] rfl zA ?_; (with_reducible refine (spec_l01Pick.calls g104 t101 t117 t118 _ _ y119 t122 t123 t124 w _ ?side1 ?side2 ?side3 ?side4 ?side5 A6.out).mono ?_); (case side1 => exact zX HI104.out); (case side2 => exact zB); (case side3 => exact zC (Kd.R_reads' HO121.out).2.2); (case side4 => exact (Kd.R_reads' HO121.out).2.1); (case side5 => exact far_slice (IsS73.own_ne HI104.out HO121.out (by decide))); rintro e w19 ⟨rfl, hi, hb, hk⟩; refine ⟨_, rfl, ?_⟩; have n_ := y5 (Kd.R_mono (Kd.R_keep (IsS73.apart (show IsS73 w _ g104 t101 t117 t118 from zX HI104.out) (zR HO107.out) (by decide)) hk (fun _ h => h.2)) (fun _ h => h.1)) (Kd.R_mono (Kd.R_keep (IsS73.apart (show IsS73 w _ g104 t101 t117 t118 from zX HI104.out) (zR HO113.out) (by decide)) hk (fun _ h => h.2)) (fun _ h => h.1)) (Kd.R_mono (Kd.R_keep (IsS73.apart (show IsS73 w _ g104 t101 t117 t118 from zX HI104.out) (zR HO121.out) (by decide)) hk (fun _ h => h.2)) (fun _ h => h.1)) (hb) (hi); clear HO107 HO113 HO121 HB HI104; obtain ⟨HO107, HO113, HO121, HB, HI104⟩ := n_; (try clear hb); (try clear hb2); (try clear hk); (try clear hi)) | ((with_reducible refine gate_callee (f := 40) rfl ?_); refine goesL_ (some 23) rfl rfl Try.func40 zk rfl #[.pointer (some ⟨g104, 0, none⟩), .int .i64 t122] rfl zA ?_; (with_reducible refine (spec_l01Near.calls g104 t101 t123 t124 t122 t125 t126 t127 w _ ?side1 ?side2 A7.out).mono ?_); (case side1 => exact zX HI104.out); (case side2 => exact zB); rintro e w20 ⟨rfl, hi, hb, hk⟩; refine ⟨_, rfl, ?_⟩; have n_ := y5 (Kd.R_mono (Kd.R_keep (IsS73.apart (show IsS73 w _ g104 t101 t123 t124 from zX HI104.out) (zR HO107.out) (by decide)) hk (fun _ h => h.2)) (fun _ h => h.1)) (Kd.R_mono (Kd.R_keep (IsS73.apart (show IsS73 w _ g104 t101 t123 t124 from zX HI104.out) (zR HO113.out) (by decide)) hk (fun _ h => h.2)) (fun _ h => h.1)) (Kd.R_mono (Kd.R_keep (IsS73.apart (show IsS73 w _ g104 t101 t123 t124 from zX HI104.out) (zR HO121.out) (by decide)) hk (fun _ h => h.2)) (fun _ h => h.1)) (hb) (hi); clear HO107 HO113 HO121 HB HI104; obtain ⟨HO107, HO113, HO121, HB, HI104⟩ := n_; (try clear hb); (try clear hb2); (try clear hk); (try clear hi)))
 go_ret3
 exact ⟨_, zE, by refine zR ?_; exact Kd.R_mono HO113.out (fun _ hk => trivial), zB⟩
end Go.Proofs.Ytpmconnonleokaa.P
end
section
namespace Go.Proofs.Ytpmconnonleokaa.P
open Go.RowKit Go.Proofs.YtpmconnonleokaaW.PrintWords Go.Proofs.YtpmconnonleokaaW.PrintLast Go.Proofs.YtpmconnonleokaaW.PrintMore
attribute [local go_sem] max2_int min2_int max_two min_two max_three min_three max_four min_four   -- for this text's walks alone
set_option linter.unusedVariables false
set_option linter.unusedSimpArgs false
def impl_DifferenceAt.j0 : Nat → List Int → Int → Int → Bool → Option (Int × Int)
  | 0, _, _, _, _ => none
  | k + 1, x0, x1, x2, x25 => if x25 = true then (some (0, 2)) else ((impl_levelCode.f k x0).bind fun t106 => (if t106 = 0 then ((impl_length_int64.f x0).bind fun t107 => (if 0 ≤ x1 then (if x1 ≤ (x0.length : Int) then ((impl_share.f k (x0.take (x1 : Int).toNat) x2).bind fun t109 => ((impl_share.f k x0 x2).bind fun t110 => (some (wrap64 ((wrap64 (t107 * t109)) - (wrap64 (x1 * t110))), 0)))) else (none)) else (none))) else (some (0, t106))))
def impl_DifferenceAt.f (k : Nat) (l0 : List Int) (a1 : Int) (a2 : Int) : Option (Int × Int) := (impl_areTurns.f l0 8).bind fun t101 => (if t101 = true then ((impl_length_int64.f l0).bind fun t102 => ((impl_within.f a1 0 t102).bind fun t103 => (if t103 = true then ((slices_Max_Sint64_int64.f k l0).bind fun t104 => ((impl_within.f a2 0 t104).bind fun t105 => (impl_DifferenceAt.j0 k l0 a1 a2 (!t105)))) else (impl_DifferenceAt.j0 k l0 a1 a2 true)))) else (impl_DifferenceAt.j0 k l0 a1 a2 true))
theorem impl_DifferenceAt.mono_l : ∀ k, (∀ y0 y1 y2 y3, LeO (impl_DifferenceAt.j0 k y0 y1 y2 y3) (impl_DifferenceAt.j0 (k + 1) y0 y1 y2 y3))
  | 0 => fun _ _ _ _ r h => by simp [impl_DifferenceAt.j0] at h
  | k + 1 => by
    have ih0 := impl_DifferenceAt.mono_l k
    · intro y0 y1 y2 y3
      unfold impl_DifferenceAt.j0
      repeat' first | (with_reducible exact ih0 _ _ _ _) | (with_reducible exact impl_levelCode.mono _ _) | (with_reducible exact impl_share.mono _ _ _) | (with_reducible exact slices_Max_Sint64_int64.mono _ _) | (with_reducible exact LeO.refl _) | (with_reducible exact LeO.none _) | (with_reducible refine LeO.ite ?_ ?_) | (with_reducible refine LeO.bind ?_ (fun _ => ?_)) | exact ih0 _ _ _ _ | exact impl_levelCode.mono _ _ | exact impl_share.mono _ _ _ | exact slices_Max_Sint64_int64.mono _ _ | exact LeO.none _ | refine LeO.ite ?_ ?_ | refine LeO.bind ?_ (fun _ => ?_)
theorem impl_DifferenceAt.mono : ∀ a0 a1 a2 k, LeO (impl_DifferenceAt.f k a0 a1 a2) (impl_DifferenceAt.f (k + 1) a0 a1 a2) := by
  intro a0 a1 a2 k
  have ih0 := impl_DifferenceAt.mono_l k
  unfold impl_DifferenceAt.f
  repeat' first | (with_reducible exact ih0 _ _ _ _) | (with_reducible exact impl_levelCode.mono _ _) | (with_reducible exact impl_share.mono _ _ _) | (with_reducible exact slices_Max_Sint64_int64.mono _ _) | (with_reducible exact LeO.refl _) | (with_reducible exact LeO.none _) | (with_reducible refine LeO.ite ?_ ?_) | (with_reducible refine LeO.bind ?_ (fun _ => ?_)) | exact ih0 _ _ _ _ | exact impl_levelCode.mono _ _ | exact impl_share.mono _ _ _ | exact slices_Max_Sint64_int64.mono _ _ | exact LeO.none _ | refine LeO.ite ?_ ?_ | refine LeO.bind ?_ (fun _ => ?_)
def impl_DifferenceAt.T6 : Bool × List (List Nat × List Nat) := (true, [([], []), ([0], [0]), ([], []), ([], []), ([2, 3], [2, 3]), ([], []), ([4, 5, 1], [4, 5]), ([1, 6], [1, 6]), ([], []), ([], []), ([], []), ([9, 10, 6], [9, 10]), ([8, 11], [8, 11]), ([7, 12], [7, 12]), ([13, 11, 0, 1, 2, 3, 4, 5, 6, 7, 8, 9, 10, 11, 12, 13], [13]), ([14, 0, 1, 2, 3, 4, 5, 6, 7, 8, 9, 10, 11, 12, 13, 14], [])])
def impl_DifferenceAt.B6 : List Nat := [0, 1, 0, 0, 12, 0, 63, 127, 0, 0, 0, 1663, 3967, 8191, 16383, 32767]
theorem impl_DifferenceAt.tab6 : rtab .any (opsOf Try.f23 6) = impl_DifferenceAt.T6 := by kernel_rfl
theorem impl_DifferenceAt.bits6 : waitsOk impl_DifferenceAt.T6.2 impl_DifferenceAt.B6 = true := by kernel_rfl
set_option maxHeartbeats 8000000 in
set_option maxRecDepth 100000 in
theorem impl_DifferenceAt.calls (k : Nat) (A0 : Option Addr) (c0 : Nat) (l0 : List Int) (a1 : Int) (a2 : Int) (r1 : Int) (r2 : Int) (w : World) (hr0 : Kd.C (Kd.int .i64) w A0 l0.length l0) (hc0 : l0.length ≤ c0) (h : impl_DifferenceAt.f k l0 a1 a2 = some (r1, r2)) :
    Calls Try.prog 23 #[.slice A0 l0.length c0, .int .i64 a1, .int .i64 a2] w fun e w' => e = .returned (.tuple #[.int .i64 r1, .int .i64 r2]) ∧ Below w.heap.size w w' := by
 have HR0 := Aside0.mk hr0
 have HC0 := Aside0.mk hc0
 clear hr0 hc0
 have HB := Aside0.mk (Below.refl w.heap.size w)
 have H : ((impl_areTurns.f l0 8).bind fun t101 => (if t101 = true then ((impl_length_int64.f l0).bind fun t102 => ((impl_within.f a1 0 t102).bind fun t103 => (if t103 = true then ((slices_Max_Sint64_int64.f k l0).bind fun t104 => ((impl_within.f a2 0 t104).bind fun t105 => (impl_DifferenceAt.j0 k l0 a1 a2 (!t105)))) else (impl_DifferenceAt.j0 k l0 a1 a2 true)))) else (impl_DifferenceAt.j0 k l0 a1 a2 true))) = some (r1, r2) := h
 clear h
 have HC4 := Aside0.mk H
 clear H
 go_enter Try.func23, Try.ntmps23
 go_upto_region 1 with (fail)
 go_cut [25] (fun v25 wc => ∃ (kq : Nat) (x25_3 : Bool), v25 = .bool x25_3 ∧ Aside0 (impl_DifferenceAt.j0 kq l0 a1 a2 x25_3 = some (r1, r2)) ∧ Aside0 (kq ≤ k) ∧ Aside0 (Below w.heap.size w wc))
 case first =>
  have H := HC4.out
  clear HC4
  replace H := Option.bind_eq_some_iff.mp H
  obtain ⟨t101, A50, H⟩ := H
  replace H : (if t101 = true then ((impl_length_int64.f l0).bind fun t102 => ((impl_within.f a1 0 t102).bind fun t103 => (if t103 = true then ((slices_Max_Sint64_int64.f k l0).bind fun t104 => ((impl_within.f a2 0 t104).bind fun t105 => (impl_DifferenceAt.j0 k l0 a1 a2 (!t105)))) else (impl_DifferenceAt.j0 k l0 a1 a2 true)))) else (impl_DifferenceAt.j0 k l0 a1 a2 true)) = some (r1, r2) := H
  have A5 := Aside0.mk A50
  clear A50
  by_cases c6 : t101 = true
  ·
   subst c6
   have H1 : ((impl_length_int64.f l0).bind fun t102 => ((impl_within.f a1 0 t102).bind fun t103 => (if t103 = true then ((slices_Max_Sint64_int64.f k l0).bind fun t104 => ((impl_within.f a2 0 t104).bind fun t105 => (impl_DifferenceAt.j0 k l0 a1 a2 (!t105)))) else (impl_DifferenceAt.j0 k l0 a1 a2 true)))) = some (r1, r2) := by rw [if_pos rfl] at H; exact H
   clear H
   have H := H1
   clear H1
   replace H := Option.bind_eq_some_iff.mp H
   obtain ⟨t102, A70, H⟩ := H
   replace H : ((impl_within.f a1 0 t102).bind fun t103 => (if t103 = true then ((slices_Max_Sint64_int64.f k l0).bind fun t104 => ((impl_within.f a2 0 t104).bind fun t105 => (impl_DifferenceAt.j0 k l0 a1 a2 (!t105)))) else (impl_DifferenceAt.j0 k l0 a1 a2 true))) = some (r1, r2) := H
   have A7 := Aside0.mk A70
   clear A70
   replace H := Option.bind_eq_some_iff.mp H
   obtain ⟨t103, A80, H⟩ := H
   replace H : (if t103 = true then ((slices_Max_Sint64_int64.f k l0).bind fun t104 => ((impl_within.f a2 0 t104).bind fun t105 => (impl_DifferenceAt.j0 k l0 a1 a2 (!t105)))) else (impl_DifferenceAt.j0 k l0 a1 a2 true)) = some (r1, r2) := H
   have A8 := Aside0.mk A80
   clear A80
   by_cases c9 : t103 = true
   ·
    subst c9
    have H1 : ((slices_Max_Sint64_int64.f k l0).bind fun t104 => ((impl_within.f a2 0 t104).bind fun t105 => (impl_DifferenceAt.j0 k l0 a1 a2 (!t105)))) = some (r1, r2) := by rw [if_pos rfl] at H; exact H
    clear H
    have H := H1
    clear H1
    replace H := Option.bind_eq_some_iff.mp H
    obtain ⟨t104, A100, H⟩ := H
    replace H : ((impl_within.f a2 0 t104).bind fun t105 => (impl_DifferenceAt.j0 k l0 a1 a2 (!t105))) = some (r1, r2) := H
    have A10 := Aside0.mk A100
    clear A100
    replace H := Option.bind_eq_some_iff.mp H
    obtain ⟨t105, A110, H⟩ := H
    replace H : (impl_DifferenceAt.j0 k l0 a1 a2 (!t105)) = some (r1, r2) := H
    have A11 := Aside0.mk A110
    clear A110
    have H' := Aside0.mk H
    clear H
    go_wp2_with (first | ((with_reducible refine gate_callee (f := 50) rfl ?_); refine goesL_ (some 10) rfl rfl Try.func50 zk rfl #[.slice A0 l0.length c0, .int .i64 8] rfl zA ?_; (with_reducible refine (impl_areTurns.calls _ _ l0 8 true _ ?side1 ?side2 A5.out).mono ?_); (case side1 => exact zC (Kd.C_below HR0.out HB.out)); (case side2 => exact HC0.out); rintro e w12 ⟨rfl, hb⟩; refine ⟨_, rfl, ?_⟩; replace HB := Aside0.mk (below_step (zB) hb); (try clear hb); (try clear hb2); (try clear hk); (try clear hi)) | (go_at_call 51; (with_reducible refine (impl_length_int64.calls _ _ l0 t102 _ ?side1 ?side2 A7.out).mono ?_); (case side1 => exact zC (Kd.C_below HR0.out HB.out)); (case side2 => exact HC0.out); rintro e w' ⟨rfl, ⟨nd, rfl⟩⟩) | (go_at_call 39; (with_reducible refine (impl_within.calls a1 0 t102 true _ A8.out).mono ?_); rintro e w' ⟨rfl, ⟨nd, rfl⟩⟩) | (go_at_call 46; (with_reducible refine (slices_Max_Sint64_int64.calls k _ _ l0 t104 _ ?side1 ?side2 A10.out).mono ?_); (case side1 => exact zC (Kd.C_below HR0.out (zB))); (case side2 => exact HC0.out); rintro e w13 ⟨rfl, hb⟩; replace HB := Aside0.mk (below_step (zB) hb); (try clear hb); (try clear hb2); (try clear hk); (try clear hi)) | (go_at_call 39; (with_reducible refine (impl_within.calls a2 0 t104 t105 _ A11.out).mono ?_); rintro e w' ⟨rfl, ⟨nd, rfl⟩⟩))
    go_meet
    case rel => exact ⟨_, (!t105), zF, H', ⟨by first | omega | exact Nat.le_refl _⟩, ⟨zB⟩⟩
   replace c9 := Bool.eq_false_iff.mpr c9
   subst c9
   have H1 : (impl_DifferenceAt.j0 k l0 a1 a2 true) = some (r1, r2) := by rw [if_neg (show ¬ (false = true) by decide)] at H; exact H
   clear H
   have H := H1
   clear H1
   have H' := Aside0.mk H
   clear H
   go_wp2_with (first | ((with_reducible refine gate_callee (f := 50) rfl ?_); refine goesL_ (some 10) rfl rfl Try.func50 zk rfl #[.slice A0 l0.length c0, .int .i64 8] rfl zA ?_; (with_reducible refine (impl_areTurns.calls _ _ l0 8 true _ ?side1 ?side2 A5.out).mono ?_); (case side1 => exact zC (Kd.C_below HR0.out HB.out)); (case side2 => exact HC0.out); rintro e w14 ⟨rfl, hb⟩; refine ⟨_, rfl, ?_⟩; replace HB := Aside0.mk (below_step (zB) hb); (try clear hb); (try clear hb2); (try clear hk); (try clear hi)) | (go_at_call 51; (with_reducible refine (impl_length_int64.calls _ _ l0 t102 _ ?side1 ?side2 A7.out).mono ?_); (case side1 => exact zC (Kd.C_below HR0.out HB.out)); (case side2 => exact HC0.out); rintro e w' ⟨rfl, ⟨nd, rfl⟩⟩) | (go_at_call 39; (with_reducible refine (impl_within.calls a1 0 t102 false _ A8.out).mono ?_); rintro e w' ⟨rfl, ⟨nd, rfl⟩⟩))
   go_meet
   case rel => exact ⟨_, (true), zF, H', ⟨by first | omega | exact Nat.le_refl _⟩, ⟨zB⟩⟩
  replace c6 := Bool.eq_false_iff.mpr c6
  subst c6
  have H1 : (impl_DifferenceAt.j0 k l0 a1 a2 true) = some (r1, r2) := by rw [if_neg (show ¬ (false = true) by decide)] at H; exact H
  clear H
  have H := H1
  clear H1
  have H' := Aside0.mk H
  clear H
  go_wp2_with (first | ((with_reducible refine gate_callee (f := 50) rfl ?_); refine goesL_ (some 10) rfl rfl Try.func50 zk rfl #[.slice A0 l0.length c0, .int .i64 8] rfl zA ?_; (with_reducible refine (impl_areTurns.calls _ _ l0 8 false _ ?side1 ?side2 A5.out).mono ?_); (case side1 => exact zC (Kd.C_below HR0.out HB.out)); (case side2 => exact HC0.out); rintro e w15 ⟨rfl, hb⟩; refine ⟨_, rfl, ?_⟩; replace HB := Aside0.mk (below_step (zB) hb); (try clear hb); (try clear hb2); (try clear hk); (try clear hi)))
  go_meet
  case rel => exact ⟨_, (true), zF, H', ⟨by first | omega | exact Nat.le_refl _⟩, ⟨zB⟩⟩
 clear HC4
 obtain ⟨kq, x25_3, rfl, HA, HJ3, HB⟩ := hcut
 cases kq with
 | zero => exact absurd HA.out (by simp [impl_DifferenceAt.j0])
 | succ kj3 =>
   have H := HA.out
   clear HA
   simp only [impl_DifferenceAt.j0] at H
   by_cases c16 : x25_3 = true
   · subst c16
     have H1 : (some (0, 2)) = some (r1, r2) := by rw [if_pos rfl] at H; exact H
     clear H
     have H := H1
     clear H1
     simp only [Option.some.injEq, Prod.mk.injEq] at H
     obtain ⟨rfl, rfl⟩ := H
     go_wp2
     go_ret2
     exact ⟨zE, zB⟩
   · replace c16 := Bool.eq_false_iff.mpr c16
     subst c16
     have H1 : ((impl_levelCode.f kj3 l0).bind fun t106 => (if t106 = 0 then ((impl_length_int64.f l0).bind fun t107 => (if 0 ≤ a1 then (if a1 ≤ (l0.length : Int) then ((impl_share.f kj3 (l0.take (a1 : Int).toNat) a2).bind fun t109 => ((impl_share.f kj3 l0 a2).bind fun t110 => (some (wrap64 ((wrap64 (t107 * t109)) - (wrap64 (a1 * t110))), 0)))) else (none)) else (none))) else (some (0, t106)))) = some (r1, r2) := by rw [if_neg (show ¬ (false = true) by decide)] at H; exact H
     clear H
     have H := H1
     clear H1
     replace H := Option.bind_eq_some_iff.mp H
     obtain ⟨t106, A170, H⟩ := H
     replace H : (if t106 = 0 then ((impl_length_int64.f l0).bind fun t107 => (if 0 ≤ a1 then (if a1 ≤ (l0.length : Int) then ((impl_share.f kj3 (l0.take (a1 : Int).toNat) a2).bind fun t109 => ((impl_share.f kj3 l0 a2).bind fun t110 => (some (wrap64 ((wrap64 (t107 * t109)) - (wrap64 (a1 * t110))), 0)))) else (none)) else (none))) else (some (0, t106))) = some (r1, r2) := H
     have A17 := Aside0.mk A170
     clear A170
     by_cases c18 : t106 = 0
     · rw [if_pos c18] at H
       have c18b0 : (t106 == 0) = true := beq_iff_eq.mpr c18
       have c18b1 : (t106 != 0) = false := bne_eq_false_iff_eq.mpr c18
       clear c18
       replace H := Option.bind_eq_some_iff.mp H
       obtain ⟨t107, A190, H⟩ := H
       replace H : (if 0 ≤ a1 then (if a1 ≤ (l0.length : Int) then ((impl_share.f kj3 (l0.take (a1 : Int).toNat) a2).bind fun t109 => ((impl_share.f kj3 l0 a2).bind fun t110 => (some (wrap64 ((wrap64 (t107 * t109)) - (wrap64 (a1 * t110))), 0)))) else (none)) else (none)) = some (r1, r2) := H
       have A19 := Aside0.mk A190
       clear A190
       by_cases c20 : 0 ≤ a1
       · rw [if_pos c20] at H
         have c20b0 := eq_true c20
         have c20b1 : decide (0 ≤ a1) = true := decide_eq_true c20
         clear c20
         by_cases c21 : a1 ≤ (l0.length : Int)
         · rw [if_pos c21] at H
           have c21b0 := eq_true c21
           have c21b1 : decide (a1 ≤ (l0.length : Int)) = true := decide_eq_true c21
           clear c21
           replace H := Option.bind_eq_some_iff.mp H
           obtain ⟨t109, A220, H⟩ := H
           replace H : ((impl_share.f kj3 l0 a2).bind fun t110 => (some (wrap64 ((wrap64 (t107 * t109)) - (wrap64 (a1 * t110))), 0))) = some (r1, r2) := H
           have A22 := Aside0.mk A220
           clear A220
           replace H := Option.bind_eq_some_iff.mp H
           obtain ⟨t110, A230, H⟩ := H
           replace H : (some (wrap64 ((wrap64 (t107 * t109)) - (wrap64 (a1 * t110))), 0)) = some (r1, r2) := H
           have A23 := Aside0.mk A230
           clear A230
           simp only [Option.some.injEq, Prod.mk.injEq] at H
           obtain ⟨rfl, rfl⟩ := H
           try go_wp2_with (first | ((with_reducible refine gate_callee (f := 31) rfl ?_); refine goesL_ (some 27) rfl rfl Try.func31 zk rfl #[.slice A0 l0.length c0] rfl zA ?_; (with_reducible refine (impl_levelCode.calls kj3 _ _ l0 t106 _ ?side1 ?side2 A17.out).mono ?_); (case side1 => exact zC (Kd.C_below HR0.out HB.out)); (case side2 => exact HC0.out); rintro e w24 ⟨rfl, hb⟩; refine ⟨_, rfl, ?_⟩; replace HB := Aside0.mk (below_step (zB) hb); (try clear hb); (try clear hb2); (try clear hk); (try clear hi)))
           replace HB := Aside0.mk (below_drew1 HB.out)
           obtain ⟨i026, hi026, _, hsz26, _⟩ := info_parts info2
           obtain ⟨hcut26, hA26, hC26⟩ := print_take_of (P := Try.prog) (Value.int .i64) 0 24 2 .i64 Try.underlying24 hi026 hsz26 A0 c0 l0 a1 (zD) (zD) HC0.out
           have HR108 := Aside0.mk (Kd.C_of_reads (h1 := fun _ => rfl) (hA26 _ (Kd.reads_of_C HR0.out)))
           have HC108 := Aside0.mk hC26
           clear hA26 hC26 hi026 hsz26
           refine start_ (n := 16) (S := fun w' => True) (ds := []) #[false,false,false,false,false,false,false,false,false,false,false,false,false,false,false,false] zk rfl rfl trivial (fun hHeld => ?_); refine with_tabW impl_DifferenceAt.tab6 impl_DifferenceAt.bits6 (fun HT_ HW_ => ?_)
           generalize w24.drew = w25 at HB HR108 hHeld ⊢
           refine pure_ (i := 0) (N := some 31) (v := ?_) (a' := ?_) #[true,false,false,false,false,false,false,false,false,false,false,false,false,false,false,false] rfl rfl (any_of HT_.out zk) (fun _ _ _ h => h) (Or.inl ⟨by rfl, ?_⟩) ?_ ?_
           rotate_left; exact zp; rotate_left; exact zq
           refine pure_ (i := 2) (N := some 33) (v := ?_) (a' := ?_) #[true,false,true,false,false,false,false,false,false,false,false,false,false,false,false,false] rfl rfl (any_of HT_.out zk) (fun _ _ _ h => h) (Or.inl ⟨by rfl, ?_⟩) ?_ ?_
           rotate_left; exact zp; rotate_left; exact zq
           refine pure_ (i := 3) (N := some 34) (v := ?_) (a' := ?_) #[true,false,true,true,false,false,false,false,false,false,false,false,false,false,false,false] rfl rfl (any_of HT_.out zk) (fun _ _ _ h => h) (Or.inl ⟨by rfl, ?_⟩) ?_ ?_
           rotate_left; exact zp; rotate_left; exact zq
           refine pure_ (i := 4) (N := some 35) (v := ?_) (a' := ?_) #[true,false,true,true,true,false,false,false,false,false,false,false,false,false,false,false] rfl rfl (any_of HT_.out zk) (fun _ _ _ h => h) (Or.inl ⟨by rfl, ?_⟩) ?_ ?_
           rotate_left; exact zp; rotate_left; exact zq
           refine pure_ (i := 5) (N := some 36) (v := ?_) (a' := ?_) #[true,false,true,true,true,true,false,false,false,false,false,false,false,false,false,false] rfl rfl (any_of HT_.out zk) (fun _ _ _ h => h) (Or.inl ⟨by rfl, ?_⟩) ?_ ?_
           rotate_left; exact zp; rotate_left; exact zq
           refine pure_ (i := 8) (N := some 39) (v := ?_) (a' := ?_) #[true,false,true,true,true,true,false,false,true,false,false,false,false,false,false,false] rfl rfl (any_of HT_.out zk) (fun _ _ _ h => h) (Or.inl ⟨by rfl, ?_⟩) ?_ ?_
           rotate_left; exact zp; rotate_left; exact zq
           refine pure_ (i := 9) (N := some 40) (v := ?_) (a' := ?_) #[true,false,true,true,true,true,false,false,true,true,false,false,false,false,false,false] rfl rfl (any_of HT_.out zk) (fun _ _ _ h => h) (Or.inl ⟨by rfl, ?_⟩) ?_ ?_
           rotate_left; exact zp; rotate_left; exact zq
           refine pure_ (i := 10) (N := some 41) (v := ?_) (a' := ?_) #[true,false,true,true,true,true,false,false,true,true,true,false,false,false,false,false] rfl rfl (any_of HT_.out zk) (fun _ _ _ h => h) (Or.inl ⟨by rfl, ?_⟩) ?_ ?_
           rotate_left; exact zp; rotate_left; exact zq
           refine one_ (i := 1) (N := some 32) #[true,true,true,true,true,true,false,false,true,true,true,false,false,false,false,false] rfl rfl (one_of HT_.out zk) (by decide) (fun K hK => ?_)
           refine goes_ Try.func51 zk rfl #[.slice A0 l0.length c0] (by rfl) rfl rfl zA ?_
           with_reducible refine (impl_length_int64.calls _ _ l0 t107 _ ?side1 ?side2 A19.out).mono ?_
           (case side1 => exact zC (Kd.C_below HR0.out HB.out))
           (case side2 => exact HC0.out)
           rintro e w' ⟨rfl, ⟨nd, rfl⟩⟩
           refine ⟨_, rfl, ?_⟩
           refine hK.out _ _ trivial (fun hHeld => ?_)
           clear hK K
           refine norm_ (a' := ?_) ?_ ?_
           rotate_left
           · show Act.put _ (some 32) _ = _
             simp only [Act.put, List.setIfInBounds_toArray, List.set_cons_zero, List.set_cons_succ, i64_w, i32_w]
             rfl
           refine one_ (i := 6) (N := some 37) #[true,true,true,true,true,true,true,false,true,true,true,false,false,false,false,false] rfl rfl (one_of HT_.out zk) (by decide) (fun K hK => ?_)
           refine goes_ Try.func38 zk rfl #[.slice A0 (l0.take (a1 : Int).toNat).length c0, .int .i64 a2] (by rfl) rfl rfl (by (try simp only [List.map_toArray, List.map_cons, List.map_nil]); first | done | (rw [show (l0.take (a1 : Int).toNat).length = a1.toNat from (by rw [List.length_take]; have h_ : (a1 : Int) ≤ (l0.length : Int) := zD; omega)] <;> rfl) | rfl | (simp only [List.length_drop, List.length_take]; rfl)) ?_
           with_reducible refine (impl_share.calls kj3 _ _ (l0.take (a1 : Int).toNat) a2 t109 _ ?side1 ?side2 A22.out).mono ?_
           (case side1 => exact zC (Kd.C_below HR108.out (zB)))
           (case side2 => exact HC108.out)
           rintro e w' ⟨rfl, ⟨nd, rfl⟩⟩
           refine ⟨_, rfl, ?_⟩
           refine hK.out _ _ trivial (fun hHeld => ?_)
           clear hK K
           refine norm_ (a' := ?_) ?_ ?_
           rotate_left
           · show Act.put _ (some 37) _ = _
             simp only [Act.put, List.setIfInBounds_toArray, List.set_cons_zero, List.set_cons_succ, i64_w, i32_w]
             rfl
           refine pure_ (i := 7) (N := some 38) (v := ?_) (a' := ?_) #[true,true,true,true,true,true,true,true,true,true,true,false,false,false,false,false] rfl rfl (any_of HT_.out zk) (fun _ _ _ h => h) (Or.inl ⟨by rfl, ?_⟩) ?_ ?_
           rotate_left; exact zp; rotate_left; exact zq
           refine one_ (i := 11) (N := some 42) #[true,true,true,true,true,true,true,true,true,true,true,true,false,false,false,false] rfl rfl (one_of HT_.out zk) (by decide) (fun K hK => ?_)
           refine goes_ Try.func38 zk rfl #[.slice A0 l0.length c0, .int .i64 a2] (by rfl) rfl rfl zA ?_
           with_reducible refine (impl_share.calls kj3 _ _ l0 a2 t110 _ ?side1 ?side2 A23.out).mono ?_
           (case side1 => exact zC (Kd.C_below HR0.out (zB)))
           (case side2 => exact HC0.out)
           rintro e w' ⟨rfl, ⟨nd, rfl⟩⟩
           refine ⟨_, rfl, ?_⟩
           refine hK.out _ _ trivial (fun hHeld => ?_)
           clear hK K
           refine norm_ (a' := ?_) ?_ ?_
           rotate_left
           · show Act.put _ (some 42) _ = _
             simp only [Act.put, List.setIfInBounds_toArray, List.set_cons_zero, List.set_cons_succ, i64_w, i32_w]
             rfl
           refine pure_ (i := 12) (N := some 43) (v := ?_) (a' := ?_) #[true,true,true,true,true,true,true,true,true,true,true,true,true,false,false,false] rfl rfl (any_of HT_.out zk) (fun _ _ _ h => h) (Or.inl ⟨by rfl, ?_⟩) ?_ ?_
           rotate_left; exact zp; rotate_left; exact zq
           refine pure_ (i := 13) (N := some 44) (v := ?_) (a' := ?_) #[true,true,true,true,true,true,true,true,true,true,true,true,true,true,false,false] rfl rfl (any_of HT_.out zk) (fun _ _ _ h => h) (Or.inl ⟨by rfl, ?_⟩) ?_ ?_
           rotate_left; exact zp; rotate_left; exact zq
           refine pure_ (i := 14) (N := some 6) (v := ?_) (a' := ?_) #[true,true,true,true,true,true,true,true,true,true,true,true,true,true,true,false] rfl rfl (any_of HT_.out zk) (fun _ _ _ h => h) (Or.inl ⟨by rfl, ?_⟩) ?_ ?_
           rotate_left; exact zp; rotate_left; exact zq
           refine pure_ (i := 15) (N := some 7) (v := ?_) (a' := ?_) #[true,true,true,true,true,true,true,true,true,true,true,true,true,true,true,true] rfl rfl (any_of HT_.out zk) (fun _ _ _ h => h) (Or.inl ⟨by rfl, ?_⟩) ?_ ?_
           rotate_left; exact zp; rotate_left; exact zq
           refine done_ (done_of HT_.out zk) ?_
           try go_wp2
           go_ret2
           exact ⟨zE, zB⟩
         · rw [if_neg c21] at H
           exact absurd H (by simp)
       · rw [if_neg c20] at H
         exact absurd H (by simp)
     · rw [if_neg c18] at H
       have c18b0 : (t106 == 0) = false := beq_eq_false_iff_ne.mpr c18
       have c18b1 : (t106 != 0) = true := bne_iff_ne.mpr c18
       simp only [Option.some.injEq, Prod.mk.injEq] at H
       obtain ⟨rfl, rfl⟩ := H
       go_wp2_with (first | ((with_reducible refine gate_callee (f := 31) rfl ?_); refine goesL_ (some 27) rfl rfl Try.func31 zk rfl #[.slice A0 l0.length c0] rfl zA ?_; (with_reducible refine (impl_levelCode.calls kj3 _ _ l0 t106 _ ?side1 ?side2 A17.out).mono ?_); (case side1 => exact zC (Kd.C_below HR0.out HB.out)); (case side2 => exact HC0.out); rintro e w27 ⟨rfl, hb⟩; refine ⟨_, rfl, ?_⟩; replace HB := Aside0.mk (below_step (zB) hb); (try clear hb); (try clear hb2); (try clear hk); (try clear hi)))
       go_ret2
       exact ⟨zE, zB⟩
end Go.Proofs.Ytpmconnonleokaa.P
end
section
namespace Go.Proofs.Ytpmconnonleokaa.P
open Go.RowKit Go.Proofs.YtpmconnonleokaaW.PrintWords Go.Proofs.YtpmconnonleokaaW.PrintLast Go.Proofs.YtpmconnonleokaaW.PrintMore
attribute [local go_sem] max2_int min2_int max_two min_two max_three min_three max_four min_four   -- for this text's walks alone
set_option linter.unusedVariables false
set_option linter.unusedSimpArgs false
mutual
def spec_l07Differences.l0 : Nat → List Int → List Int → Int → List (List Int) → Int → Option ((List (List Int)))
  | 0, _, _, _, _, _ => none
  | k + 1, x0, x1, x5, x6, x7 => if x7 < (x0.length : Int) then (if 0 ≤ x7 then (if x7 < (x6.length : Int) then ((spec_l01Own.f (rd_L2 x6 x7)).bind fun t108 => (spec_l07Differences.l1 k x0 x1 x5 x6 x7 t108 (t108.length : Int) 0)) else (none)) else (none)) else (some x6)
def spec_l07Differences.l1 : Nat → List Int → List Int → Int → List (List Int) → Int → List Int → Int → Int → Option ((List (List Int)))
  | 0, _, _, _, _, _, _, _, _ => none
  | k + 1, x0, x1, x5, x6, x7, x8, x28, x29 => if x29 < x28 then (if 0 ≤ x29 then (if x29 < (x8.length : Int) then (if x29 < (x1.length : Int) then (spec_l07Differences.l1 k x0 x1 x5 x6 x7 (x8.set (x29 : Int).toNat (wrap64 ((rd x8 x29) - (rd x1 x29)))) x28 (wrap64 (x29 + 1))) else (none)) else (none)) else (none)) else (if 0 ≤ x7 then (if x7 < (x0.length : Int) then (if 0 ≤ (rd x0 x7) then (if (rd x0 x7) < (x8.length : Int) then (if x6.length < 5864062014805 then (spec_l07Differences.l0 k x0 x1 x5 (x6 ++ [(x8.set ((rd x0 x7) : Int).toNat (wrap64 ((rd x8 (rd x0 x7)) + x5)))]) (wrap64 (x7 + 1))) else (none)) else (none)) else (none)) else (none)) else (none))
end
def spec_l07Differences.f (k : Nat) (l0 : List Int) (l1 : List Int) : Option ((List (List Int))) := if 0 ≤ (l1.length : Int) then (if ((l1.length : Int) : Int).toNat ≤ 35184372088832 then (spec_l07Differences.l0 k l0 l1 (l0.length : Int) (([(List.replicate ((l1.length : Int) : Int).toNat 0)] : List (List Int))) 0) else (none)) else (none)
theorem spec_l07Differences.mono_l : ∀ k, (∀ y0 y1 y2 y3 y4, LeO (spec_l07Differences.l0 k y0 y1 y2 y3 y4) (spec_l07Differences.l0 (k + 1) y0 y1 y2 y3 y4)) ∧ (∀ y0 y1 y2 y3 y4 y5 y6 y7, LeO (spec_l07Differences.l1 k y0 y1 y2 y3 y4 y5 y6 y7) (spec_l07Differences.l1 (k + 1) y0 y1 y2 y3 y4 y5 y6 y7))
  | 0 => ⟨fun _ _ _ _ _ r h => by simp [spec_l07Differences.l0] at h, fun _ _ _ _ _ _ _ _ r h => by simp [spec_l07Differences.l1] at h⟩
  | k + 1 => by
    obtain ⟨ih0, ih1⟩ := spec_l07Differences.mono_l k
    refine ⟨?_, ?_⟩ <;> intros <;> (first | unfold spec_l07Differences.l0 | unfold spec_l07Differences.l1) <;> repeat' first | (with_reducible exact ih0 _ _ _ _ _) | (with_reducible exact ih1 _ _ _ _ _ _ _ _) | (with_reducible exact LeO.refl _) | (with_reducible exact LeO.none _) | (with_reducible refine LeO.ite ?_ ?_) | (with_reducible refine LeO.bind ?_ (fun _ => ?_)) | exact ih0 _ _ _ _ _ | exact ih1 _ _ _ _ _ _ _ _ | exact LeO.none _ | refine LeO.ite ?_ ?_ | refine LeO.bind ?_ (fun _ => ?_)
theorem spec_l07Differences.mono : ∀ a0 a1 k, LeO (spec_l07Differences.f k a0 a1) (spec_l07Differences.f (k + 1) a0 a1) := by
  intro a0 a1 k
  obtain ⟨ih0, ih1⟩ := spec_l07Differences.mono_l k
  unfold spec_l07Differences.f
  repeat' first | (with_reducible exact ih0 _ _ _ _ _) | (with_reducible exact ih1 _ _ _ _ _ _ _ _) | (with_reducible exact LeO.refl _) | (with_reducible exact LeO.none _) | (with_reducible refine LeO.ite ?_ ?_) | (with_reducible refine LeO.bind ?_ (fun _ => ?_)) | exact ih0 _ _ _ _ _ | exact ih1 _ _ _ _ _ _ _ _ | exact LeO.none _ | refine LeO.ite ?_ ?_ | refine LeO.bind ?_ (fun _ => ?_)
def spec_l07Differences.T1 : Bool × List (List Nat × List Nat) := (true, [([], []), ([0], [0]), ([], []), ([2], [2]), ([3, 3], [3]), ([4], [4]), ([1, 0, 1], [1]), ([5, 6, 0, 1, 2, 3, 4, 5, 6], [5])])
def spec_l07Differences.B1 : List Nat := [0, 1, 0, 4, 12, 28, 3, 127]
theorem spec_l07Differences.tab1 : rtab .any (opsOf Try.f53 1) = spec_l07Differences.T1 := by kernel_rfl
theorem spec_l07Differences.bits1 : waitsOk spec_l07Differences.T1.2 spec_l07Differences.B1 = true := by kernel_rfl
def spec_l07Differences.T9 : Bool × List (List Nat × List Nat) := (true, [([], []), ([], []), ([], []), ([], []), ([2, 3], [2, 3]), ([4], [4]), ([], []), ([], []), ([6, 7], [6, 7]), ([8], [8]), ([5, 9], [5, 9]), ([0, 1, 0, 1, 2, 3, 4, 5, 6, 7, 8, 9, 10], [0, 1]), ([11, 10, 0, 1, 2, 3, 4, 5, 6, 7, 8, 9, 10], [10, 11])])
def spec_l07Differences.B9 : List Nat := [0, 0, 0, 0, 12, 28, 0, 0, 192, 448, 1020, 2047, 4095]
theorem spec_l07Differences.tab9 : rtab .any (opsOf Try.f53 9) = spec_l07Differences.T9 := by kernel_rfl
theorem spec_l07Differences.bits9 : waitsOk spec_l07Differences.T9.2 spec_l07Differences.B9 = true := by kernel_rfl
def spec_l07Differences.T11 : Bool × List (List Nat × List Nat) := (true, [([], []), ([], []), ([], []), ([1, 2], [1, 2]), ([3], [3]), ([], []), ([], []), ([], []), ([6, 7], [6, 7]), ([8], [8]), ([5, 9], [5, 9]), ([10], [10]), ([], []), ([11, 12], [11, 12]), ([0, 4, 0, 1, 2, 3, 4, 5, 6, 7, 8, 9, 10, 11, 12, 13], [0, 4]), ([14, 13, 0, 1, 2, 3, 4, 5, 6, 7, 8, 9, 10, 11, 12, 13], [13, 14])])
def spec_l07Differences.B11 : List Nat := [0, 0, 0, 6, 14, 0, 0, 0, 192, 448, 992, 2016, 0, 8160, 16383, 32767]
theorem spec_l07Differences.tab11 : rtab .any (opsOf Try.f53 11) = spec_l07Differences.T11 := by kernel_rfl
theorem spec_l07Differences.bits11 : waitsOk spec_l07Differences.T11.2 spec_l07Differences.B11 = true := by kernel_rfl
set_option maxHeartbeats 8000000 in
set_option maxRecDepth 100000 in
theorem spec_l07Differences.calls (k : Nat) (A0 : Option Addr) (c0 : Nat) (l0 : List Int) (A1 : Option Addr) (c1 : Nat) (l1 : List Int) (r : List (List Int)) (w : World) (hr0 : Kd.C (Kd.int .i64) w A0 l0.length l0) (hc0 : l0.length ≤ c0) (hr1 : Kd.C (Kd.int .i64) w A1 l1.length l1) (hc1 : l1.length ≤ c1) (h : spec_l07Differences.f k l0 l1 = some r) :
    Calls Try.prog 53 #[.slice A0 l0.length c0, .slice A1 l1.length c1] w fun e w' => ∃ v0_ : Value, e = .returned (v0_) ∧ Kd.N (Kd.slice 2 (Kd.int .i64)) 24 w' w.heap.size (fun k_ => (w.heap.size ≤ k_)) v0_ r ∧ Below w.heap.size w w' := by
 have HR0 := Aside0.mk hr0
 have HC0 := Aside0.mk hc0
 clear hr0 hc0
 have HR1 := Aside0.mk hr1
 have HC1 := Aside0.mk hc1
 clear hr1 hc1
 have HB := Aside0.mk (Below.refl w.heap.size w)
 have H : (if 0 ≤ (l1.length : Int) then (if ((l1.length : Int) : Int).toNat ≤ 35184372088832 then (spec_l07Differences.l0 k l0 l1 (l0.length : Int) (([(List.replicate ((l1.length : Int) : Int).toNat 0)] : List (List Int))) 0) else (none)) else (none)) = some r := h
 clear h
 by_cases c3 : 0 ≤ (l1.length : Int)
 case neg => rw [if_neg c3] at H; exact absurd H (by simp)
 rw [if_pos c3] at H
 have c3b0 := eq_true c3
 have c3b1 : decide (0 ≤ (l1.length : Int)) = true := decide_eq_true c3
 clear c3
 by_cases c4 : ((l1.length : Int) : Int).toNat ≤ 35184372088832
 case neg => rw [if_neg c4] at H; exact absurd H (by simp)
 rw [if_pos c4] at H
 have c4b0 := eq_true c4
 have c4b1 : decide (((l1.length : Int) : Int).toNat ≤ 35184372088832) = true := decide_eq_true c4
 clear c4
 obtain ⟨y101, hy101⟩ : ∃ y_ : List Int, y_ = (List.replicate ((l1.length : Int) : Int).toNat 0) := ⟨_, rfl⟩
 replace H : (spec_l07Differences.l0 k l0 l1 (l0.length : Int) (([y101] : List (List Int))) 0) = some r := zH hy101
 have Ny101 := Aside0.mk hy101
 clear hy101
 obtain ⟨y104, hy104⟩ : ∃ y_ : List (List Int), y_ = (([y101] : List (List Int))) := ⟨_, rfl⟩
 replace H : (spec_l07Differences.l0 k l0 l1 (l0.length : Int) y104 0) = some r := zH hy104
 have Ny104 := Aside0.mk hy104
 clear hy104
 have H' := Aside0.mk H
 clear H
 go_enter Try.func53, Try.ntmps53
 try go_wp2
 replace HB := Aside0.mk (below_drew1 HB.out)
 refine start_ (n := 8) (S := fun w' => True) (ds := []) #[false,false,false,false,false,false,false,false] zk rfl rfl trivial (fun hHeld => ?_); refine with_tabW spec_l07Differences.tab1 spec_l07Differences.bits1 (fun HT_ HW_ => ?_)
 generalize w.drew = w5 at HB hHeld ⊢
 refine pure_ (i := 0) (N := some 10) (v := ?_) (a' := ?_) #[true,false,false,false,false,false,false,false] rfl rfl (any_of HT_.out zk) (fun _ _ _ h => h) (Or.inl ⟨by rfl, ?_⟩) ?_ ?_
 rotate_left; exact zp; rotate_left; exact zq
 refine pure_ (i := 1) (N := some 11) (v := ?_) (a' := ?_) #[true,true,false,false,false,false,false,false] rfl rfl (any_of HT_.out zk) (fun _ _ _ h => h) (Or.inl ⟨by rfl, ?_⟩) ?_ ?_
 rotate_left; exact zp; rotate_left; exact zq
 refine pure_ (i := 2) (N := some 12) (v := ?_) (a' := ?_) #[true,true,true,false,false,false,false,false] rfl rfl (any_of HT_.out zk) (fun _ _ _ h => h) (Or.inl ⟨by rfl, ?_⟩) ?_ ?_
 rotate_left; exact zp; rotate_left; exact zq
 refine pure_ (i := 3) (N := some 13) (v := ?_) (a' := ?_) #[true,true,true,true,false,false,false,false] rfl rfl (any_of HT_.out zk) (fun _ _ _ h => h) (Or.inl ⟨by rfl, ?_⟩) ?_ ?_
 rotate_left; exact zp; rotate_left; exact zq
 refine pure_ (i := 6) (N := some 5) (v := ?_) (a' := ?_) #[true,true,true,true,false,false,true,false] rfl rfl (any_of HT_.out zk) (fun _ _ _ h => h) (Or.inl ⟨by rfl, ?_⟩) ?_ ?_
 rotate_left; exact zp; rotate_left; exact zq
 refine one_ (i := 4) (N := some 14) #[true,true,true,true,true,false,true,false] rfl rfl (one_of HT_.out zk) (by decide) (fun K hK => ?_)
 refine Kd.R_make_step (Kd.int .i64) _ 2 (by rfl) (N := 14) rfl 24 _ _ rfl (l1.length : Int) rfl rfl Try.underlying24 (.int .i64 0) 8 info2 rfl (by decide) (by omega) 0 (ok := fun _ => True) (okp := fun _ => True) rfl (fun _ hk => hk) trivial (zD) (Nat.le_trans (Nat.mul_le_mul_right _ (zD : (l1.length : Int).toNat ≤ 35184372088832)) (by omega)) (Below.refl _ _) (Nat.le_refl _) ?_
 intro v102 w6 ho7 hb hg_ hnew_
 clear hg_ hnew_
 (first | rw [← Ny101.out] at ho7 | (simp only [Int.reduceToNat] at ho7; rw [← Ny101.out] at ho7))
 have n_ := y2 (Kd.R_lower (Kd.R_newM (M := fun k_ => (w.heap.size ≤ k_)) ho7 (below_size (zB)) (fun k_ h_ => h_)) (below_size (zB))) (below_step (zB) hb)
 clear HB
 obtain ⟨HO103, HB⟩ := n_
 clear hb ho7
 obtain ⟨Ao8, co8, eo8⟩ := Kd.R_slice HO103.out
 (first | subst eo8 | (injection eo8 with f1_ f2_ f3_; have f4_ := f1_.symm; have f5_ := f3_.symm; clear f1_ f2_ f3_; subst f4_; subst f5_))
 refine hK.out _ _ trivial (fun hHeld => ?_)
 clear hK K
 refine norm_ (a' := ?_) ?_ ?_
 rotate_left
 ·
  show Act.put _ (some 14) _ = _
  simp only [Act.put, List.setIfInBounds_toArray, List.set_cons_zero, List.set_cons_succ, i64_w, i32_w]
  rfl
 refine one_ (i := 5) (N := some 15) #[true,true,true,true,true,true,true,false] rfl rfl (one_of HT_.out zk) (by decide) (fun K hK => ?_)
 refine Kd.N_lit_step (Kd.slice 2 (Kd.int .i64)) _ 24 ?hg (N' := 15) ?hd (xs := ([y101] : List (List Int))) (inner := [.slice Ao8 y101.length co8]) (ok := (fun k_ => (w.heap.size ≤ k_))) (okp := (fun k_ => (w.heap.size ≤ k_))) ?hr ?hp (fun _ hk => hk) ((show ∀ k_, w6.heap.size ≤ k_ → (fun k_ => (w.heap.size ≤ k_)) k_ from fun k_ hk => (Nat.le_trans (below_size (zB)) hk)) _ (Nat.le_refl _)) (Below.refl _ _) (Nat.le_refl _) (by simp) ?_; (case hd => rfl); (case hg => rfl); (case hr => first | (go_simp; done) | (go_simp; rfl)); (case hp => exact (Reps.one (show Kd.FK (Kd.slice 2 (Kd.int .i64)) _ _ y101 [.slice Ao8 y101.length co8] from (Kd.FK_slice_mk (Kd.R_reads' (Kd.R_mono (ok' := (fun k_ => (w.heap.size ≤ k_))) (HO103.out) (fun k_ hk => hk.1))).2.1 (Kd.R_F (Kd.R_mono (ok' := (fun k_ => (w.heap.size ≤ k_))) (HO103.out) (fun k_ hk => hk.1))))) (Reps.none _ _)))
 intro v105 w9 ho10 hb hg_ hnew_
 clear hg_ hnew_
 (first | rw [← Ny104.out] at ho10 | (simp only [Int.reduceToNat] at ho10; rw [← Ny104.out] at ho10))
 have n_ := y2 (Kd.N_lower ho10 (below_size (zB))) (below_step (zB) hb)
 clear HB HO103
 obtain ⟨HO106, HB⟩ := n_
 clear hb ho10
 refine hK.out _ _ trivial (fun hHeld => ?_)
 clear hK K
 refine norm_ (a' := ?_) ?_ ?_
 rotate_left
 ·
  show Act.put _ (some 15) _ = _
  simp only [Act.put, List.setIfInBounds_toArray, List.set_cons_zero, List.set_cons_succ, i64_w, i32_w]
  rfl
 refine pure_ (i := 7) (N := some 6) (v := ?_) (a' := ?_) #[true,true,true,true,true,true,true,true] rfl rfl (any_of HT_.out zk) (fun _ _ _ h => h) (Or.inl ⟨by rfl, ?_⟩) ?_ ?_
 rotate_left; exact zp; rotate_left; exact zq
 refine done_ (done_of HT_.out zk) ?_
 try go_wp2
 go_loopg [6, 7] k (fun kq v6 v7 w' => ∃ (x6_1 : List (List Int)) (x7_1 : Int), v7 = .int .i64 x7_1 ∧ Aside0 (spec_l07Differences.l0 kq l0 l1 (l0.length : Int) x6_1 x7_1 = some r) ∧ Aside0 (kq ≤ k) ∧ Aside0 (Kd.N (Kd.slice 2 (Kd.int .i64)) 24 w' w.heap.size (fun k_ => (w.heap.size ≤ k_)) v6 x6_1) ∧ Aside0 (Below w.heap.size w w'))
 case atStart => exact ⟨(y104), (0), zF, H', ⟨Nat.le_refl _⟩, ⟨by (with_reducible repeat (first | apply Kd.N_alloc | apply Kd.N_drewN | apply Kd.N_drew)); exact HO106.out⟩, ⟨zB⟩⟩
 clear H'
 try clear c3
 try clear c3b0
 try clear c3b1
 try clear c4
 try clear c4b0
 try clear c4b1
 obtain ⟨x6_1, x7_1, rfl, HA, HK1, HO_6, HB⟩ := hrel
 cases gk with
 | zero => exact absurd HA.out (by simp [spec_l07Differences.l0])
 | succ k1 =>
   have H := HA.out
   clear HA
   simp only [spec_l07Differences.l0] at H
   by_cases c11 : x7_1 < (l0.length : Int)
   · rw [if_pos c11] at H
     have c11b0 : decide (x7_1 < (l0.length : Int)) = true := decide_eq_true c11
     clear c11
     by_cases c12 : 0 ≤ x7_1
     · rw [if_pos c12] at H
       have c12b0 : decide (0 ≤ x7_1) = true := decide_eq_true c12
       clear c12
       by_cases c13 : x7_1 < (x6_1.length : Int)
       · rw [if_pos c13] at H
         have c13b0 : decide (x7_1 < (x6_1.length : Int)) = true := decide_eq_true c13
         clear c13
         replace H := Option.bind_eq_some_iff.mp H
         obtain ⟨t108, A140, H⟩ := H
         replace H : (spec_l07Differences.l1 k1 l0 l1 (l0.length : Int) x6_1 x7_1 t108 (t108.length : Int) 0) = some r := H
         have A14 := Aside0.mk A140
         clear A140
         have H' := Aside0.mk H
         clear H
         obtain ⟨Ao15, co15, eo15⟩ := Kd.N_slice HO_6.out
         subst eo15
         have p107 : 0 ≤ (x7_1 : Int) := zD
         have q107 : x7_1 < (x6_1.length : Int) := zD
         obtain ⟨ad107, A107_0, c107_0, e107, hx107_0, hl107_0, hi107_0⟩ := at_L2 (Kd.N_reads' HO_6.out).2.2 x7_1 p107 q107
         cases e107
         obtain ⟨ce107, hce107, hMe107, hcc107⟩ := Kd.N_get HO_6.out [] x7_1 p107 (by first | exact q107 | exact zD | (have e_ := (Kd.N_reads' HO_6.out).1; omega))
         obtain ⟨ua107_0, uc107_0, rfl, ul107_0, ge107_0⟩ := Kd.FK_slice_open hMe107
         have hv107_0 := hcc107 0 _ rfl
         rw [Nat.add_zero, show ((Kd.slice 2 (Kd.int .i64))).sz = 1 from rfl, Nat.mul_one] at hv107_0
         replace hv107_0 := Option.some.inj (hv107_0.symm.trans hx107_0)
         injection hv107_0 with hva_ hvn_ hvc_
         rw [hva_] at ge107_0
         rw [hvc_] at ul107_0
         have HL107_0 := Aside0.mk (show Kd.V (Kd.int .i64) 2 _ w.heap.size _ _ (rd_L2 x6_1 x7_1) from Kd.V_mk ul107_0 ge107_0)
         clear hva_ hvn_ hvc_ ge107_0 ul107_0
         clear hcc107 hce107
         have HR107_0 := Aside0.mk hi107_0
         have HC107_0 := Aside0.mk hl107_0
         clear hi107_0 hl107_0
         replace p107 := eq_true p107
         replace q107 := eq_true q107
         go_wp2_with (first | ((with_reducible refine gate_callee (f := 62) rfl ?_); refine goesL_ (some 26) rfl rfl Try.func62 zk rfl #[.slice A107_0 (rd_L2 x6_1 x7_1).length c107_0] rfl zA ?_; (with_reducible refine (spec_l01Own.calls _ _ (rd_L2 x6_1 x7_1) t108 _ ?side1 ?side2 A14.out).mono ?_); (case side1 => repeat (first | exact (by repeat (first | (with_reducible exact HR107_0.out) | (with_reducible refine Kd.C_alloc ?_ _) | (with_reducible refine Kd.C_drewN ?_ _) | (with_reducible refine Kd.C_drew ?_) | exact HR107_0.out)) | (with_reducible refine Kd.C_alloc ?_ _) | (with_reducible refine Kd.C_drewN ?_ _) | (with_reducible refine Kd.C_drew ?_))); (case side2 => exact HC107_0.out); rintro e w16 ⟨v109, rfl, ho0, hb⟩; refine ⟨_, rfl, ?_⟩; have n_ := y5 (Kd.N_elder' (by (with_reducible repeat (first | apply Kd.N_alloc | apply Kd.N_drewN | apply Kd.N_drew)); exact HO_6.out) (Kd.R_base ho0) hb) (Kd.V_elder' (by (with_reducible repeat (first | apply Kd.V_alloc | apply Kd.V_drewN | apply Kd.V_drew)); exact HL107_0.out) (Kd.R_base ho0) hb) (Kd.R_lower (Kd.R_newM (M := fun k_ => (w.heap.size ≤ k_)) ho0 (below_size (zB)) (fun k_ h_ => h_)) (below_size (zB))) (Kd.C_below (by repeat (first | (with_reducible exact HR107_0.out) | (with_reducible refine Kd.C_alloc ?_ _) | (with_reducible refine Kd.C_drewN ?_ _) | (with_reducible refine Kd.C_drew ?_) | exact HR107_0.out)) hb) (below_step (zB) hb); clear HO_6 HL107_0 HR107_0 HB; obtain ⟨HO_6, HL107_0, HO110, HR107_0, HB⟩ := n_; (try clear hb); (try clear hb2); (try clear hk); (try clear hi); (try clear ho0); obtain ⟨Ao17, co17, eo17⟩ := Kd.R_slice HO110.out; subst eo17))
         go_loopg [29] k1 (fun kq v29 w' => ∃ (x8_2 : List Int) (x29_2 : Int), v29 = .int .i64 x29_2 ∧ Aside0 (spec_l07Differences.l1 kq l0 l1 (l0.length : Int) x6_1 x7_1 x8_2 (t108.length : Int) x29_2 = some r) ∧ Aside0 (kq ≤ k1) ∧ Aside0 (Kd.N (Kd.slice 2 (Kd.int .i64)) 24 w' w.heap.size (fun k_ => (w.heap.size ≤ k_) ∧ some k_ ≠ ((.slice Ao17 t108.length co17) : Value).ownBlock) (.slice (some ad107) x6_1.length co15) x6_1) ∧ Aside0 (Kd.R (Kd.int .i64) 2 w' w.heap.size (fun k_ => (w.heap.size ≤ k_)) (.slice Ao17 t108.length co17) x8_2) ∧ Aside0 (Below w.heap.size w w'))
         case atStart => exact ⟨(t108), (0), zF, H', ⟨Nat.le_refl _⟩, ⟨by (with_reducible repeat (first | apply Kd.N_alloc | apply Kd.N_drewN | apply Kd.N_drew)); exact HO_6.out⟩, ⟨by refine zR ?_; exact Kd.R_mono HO110.out (fun _ hk => hk.1)⟩, ⟨zB⟩⟩
         case round =>
           clear H'
           try clear c3
           try clear c3b0
           try clear c3b1
           try clear c4
           try clear c4b0
           try clear c4b1
           try clear c11
           try clear c11b0
           try clear c12
           try clear c12b0
           try clear c13
           try clear c13b0
           try clear hx107_0
           try clear p107
           try clear q107
           obtain ⟨x8_2, x29_2, rfl, HA, HK2, HO_6, HO_8, HB⟩ := hrel
           have hl8_2 := (Kd.R_reads' HO_8.out).1
           rw [hl8_2] at HO_8
           (try simp only [hl8_2])
           (try simp only [hl8_2] at HO_6)
           cases gk with
           | zero => exact absurd HA.out (by simp [spec_l07Differences.l1])
           | succ k2 =>
             have H := HA.out
             clear HA
             simp only [spec_l07Differences.l1] at H
             by_cases c18 : x29_2 < (t108.length : Int)
             · rw [if_pos c18] at H
               have c18b0 : decide (x29_2 < (t108.length : Int)) = true := decide_eq_true c18
               clear c18
               by_cases c19 : 0 ≤ x29_2
               · rw [if_pos c19] at H
                 have c19b0 : decide (0 ≤ x29_2) = true := decide_eq_true c19
                 clear c19
                 by_cases c20 : x29_2 < (x8_2.length : Int)
                 · rw [if_pos c20] at H
                   have c20b0 : decide (x29_2 < (x8_2.length : Int)) = true := decide_eq_true c20
                   clear c20
                   by_cases c21 : x29_2 < (l1.length : Int)
                   · rw [if_pos c21] at H
                     have c21b0 : decide (x29_2 < (l1.length : Int)) = true := decide_eq_true c21
                     clear c21
                     obtain ⟨y113, hy113⟩ : ∃ y_ : List Int, y_ = (x8_2.set (x29_2 : Int).toNat (wrap64 ((rd x8_2 x29_2) - (rd l1 x29_2)))) := ⟨_, rfl⟩
                     replace H : (spec_l07Differences.l1 k2 l0 l1 (l0.length : Int) x6_1 x7_1 y113 (t108.length : Int) (wrap64 (x29_2 + 1))) = some r := zH hy113
                     have Ny113 := Aside0.mk hy113
                     clear hy113
                     have H' := Aside0.mk H
                     clear H
                     try go_wp2
                     have n_ := y3 (Kd.N_drew HO_6.out) (Kd.R_drew HO_8.out) (below_drew1 HB.out)
                     clear HO_6 HO_8 HB
                     obtain ⟨HO_6, HO_8, HB⟩ := n_
                     have p111 : 0 ≤ (x29_2 : Int) := zD
                     have q111 : x29_2 < (x8_2.length : Int) := zD
                     obtain ⟨ad111, e111, hx111_0⟩ := Kd.at_int (Kd.R_reads' HO_8.out).2.2 x29_2 p111 q111
                     cases e111
                     replace p111 := eq_true p111
                     replace q111 := eq_true q111
                     have p112 : 0 ≤ (x29_2 : Int) := zD
                     have q112 : x29_2 < (l1.length : Int) := zD
                     obtain ⟨ad112, e112, hx112_0⟩ := Kd.at_int HR1.out x29_2 p112 q112
                     have hw112_0 := hx112_0
                     cases e112
                     replace hx112_0 := (HB.out.cell (World.block_lt_of_cell? w _ hx112_0)).trans hx112_0
                     replace p112 := eq_true p112
                     replace q112 := eq_true q112
                     have p22 : 0 ≤ (x29_2 : Int) := zD
                     have q22 : (x29_2 : Int) < ((x8_2.length : Int) : Int) := zD
                     obtain ⟨go22, co22, eo22, gb22, gl22, cl22, HG22⟩ := Kd.R_form HO_8.out (by omega)
                     (first | cases eo22 | (injection eo22 with ea_ en_ ec_; (first | subst ea_ | (injection ea_ with ea_; subst ea_)); subst ec_; clear en_))
                     have GB22 := Aside0.mk gb22
                     have GG22 := Aside0.mk HG22
                     clear gb22 gl22 HG22
                     (first | simp only [add_plain] at hx111_0 | skip)
                     obtain ⟨hx22_0, hf22_0⟩ := Kd.R_celln 0 HO_8.out (x29_2 : Int) p22 q22
                     replace p22 := eq_true p22
                     replace q22 := eq_true q22
                     have HP24 := Kd.R_putn HO_8.out (x29_2 : Int) (wrap64 ((rd x8_2 x29_2) - (rd l1 x29_2)))
                     rw [← Ny113.out] at HP24
                     have HQ24 := Aside0.mk HP24
                     clear HP24
                     refine start_ (n := 13) (S := fun w' => w'.cell? ⟨go22, (x29_2).toNat, none⟩ = some (.int .i64 (rd x8_2 x29_2)) ∧ w'.cell? (ad112.add (x29_2).toNat) = some (.int .i64 (rd l1 x29_2))) (ds := [12]) #[false,false,false,false,false,false,false,false,false,false,false,false,false] zk rfl rfl ⟨hx111_0, ((HB.out.cell (World.block_lt_of_cell? w _ hw112_0)).trans hw112_0)⟩ (fun hHeld => ?_); refine with_tabW spec_l07Differences.tab9 spec_l07Differences.bits9 (fun HT_ HW_ => ?_)
                     generalize wr.drew = w23 at HO_6 HO_8 HB GG22 HQ24 hf22_0 hx111_0 hx112_0 hx22_0 hHeld ⊢
                     refine pure_ (i := 0) (N := some 32) (v := ?_) (a' := ?_) #[true,false,false,false,false,false,false,false,false,false,false,false,false] rfl rfl (any_of HT_.out zk) (fun _ _ _ h => h) (Or.inl ⟨by rfl, ?_⟩) ?_ ?_
                     rotate_left; exact zp; rotate_left; exact zq
                     refine pure_ (i := 1) (N := some 33) (v := ?_) (a' := ?_) #[true,true,false,false,false,false,false,false,false,false,false,false,false] rfl rfl (any_of HT_.out zk) (fun _ _ _ h => h) (Or.inl ⟨by rfl, ?_⟩) ?_ ?_
                     rotate_left; exact zp; rotate_left; exact zq
                     refine pure_ (i := 2) (N := some 34) (v := ?_) (a' := ?_) #[true,true,true,false,false,false,false,false,false,false,false,false,false] rfl rfl (any_of HT_.out zk) (fun _ _ _ h => h) (Or.inl ⟨by rfl, ?_⟩) ?_ ?_
                     rotate_left; exact zp; rotate_left; exact zq
                     refine pure_ (i := 3) (N := some 35) (v := ?_) (a' := ?_) #[true,true,true,true,false,false,false,false,false,false,false,false,false] rfl rfl (any_of HT_.out zk) (fun _ _ _ h => h) (Or.inl ⟨by rfl, ?_⟩) ?_ ?_
                     rotate_left; exact zp; rotate_left; exact zq
                     refine pure_ (i := 4) (N := some 36) (v := ?_) (a' := ?_) #[true,true,true,true,true,false,false,false,false,false,false,false,false] rfl rfl (any_of HT_.out zk) (fun _ _ _ h => h) (Or.inl ⟨by rfl, ?_⟩) ?_ ?_
                     rotate_left; exact zp; rotate_left; exact zq
                     refine pure_ (i := 6) (N := some 38) (v := ?_) (a' := ?_) #[true,true,true,true,true,false,true,false,false,false,false,false,false] rfl rfl (any_of HT_.out zk) (fun _ _ _ h => h) (Or.inl ⟨by rfl, ?_⟩) ?_ ?_
                     rotate_left; exact zp; rotate_left; exact zq
                     refine pure_ (i := 7) (N := some 39) (v := ?_) (a' := ?_) #[true,true,true,true,true,false,true,true,false,false,false,false,false] rfl rfl (any_of HT_.out zk) (fun _ _ _ h => h) (Or.inl ⟨by rfl, ?_⟩) ?_ ?_
                     rotate_left; exact zp; rotate_left; exact zq
                     refine pure_ (i := 8) (N := some 40) (v := ?_) (a' := ?_) #[true,true,true,true,true,false,true,true,true,false,false,false,false] rfl rfl (any_of HT_.out zk) (fun _ _ _ h => h) (Or.inl ⟨by rfl, ?_⟩) ?_ ?_
                     rotate_left; exact zp; rotate_left; exact zq
                     refine take_ (i := 5) (N := some 37) (v := ?_) (a' := ?_) #[true,true,true,true,true,true,true,true,true,false,false,false,false] rfl rfl (take_ofW HT_.out HW_.out zk) (fun _ _ _ h => h) (Or.inl ⟨by rfl, ?_⟩) hHeld ?_ ?_
                     rotate_left
                     · rintro w' ⟨s0, s1⟩
                       go_simp
                       with_reducible rfl
                     rotate_left
                     · simp only [Act.put, List.setIfInBounds_toArray, List.set_cons_zero, List.set_cons_succ, i64_w, i32_w]
                       rfl
                     refine take_ (i := 9) (N := some 41) (v := ?_) (a' := ?_) #[true,true,true,true,true,true,true,true,true,true,false,false,false] rfl rfl (take_ofW HT_.out HW_.out zk) (fun _ _ _ h => h) (Or.inl ⟨by rfl, ?_⟩) hHeld ?_ ?_
                     rotate_left
                     · rintro w' ⟨s0, s1⟩
                       go_simp
                       with_reducible rfl
                     rotate_left
                     · simp only [Act.put, List.setIfInBounds_toArray, List.set_cons_zero, List.set_cons_succ, i64_w, i32_w]
                       rfl
                     refine pure_ (i := 10) (N := some 42) (v := ?_) (a' := ?_) #[true,true,true,true,true,true,true,true,true,true,true,false,false] rfl rfl (any_of HT_.out zk) (fun _ _ _ h => h) (Or.inl ⟨by rfl, ?_⟩) ?_ ?_
                     rotate_left; exact zp; rotate_left; exact zq
                     refine pure_ (i := 11) (N := some 43) (v := ?_) (a' := ?_) #[true,true,true,true,true,true,true,true,true,true,true,true,false] rfl rfl (any_of HT_.out zk) (fun _ _ _ h => h) (Or.inl ⟨by rfl, ?_⟩) ?_ ?_
                     rotate_left; exact zp; rotate_left; exact zq
                     refine last_ (i := 12) (N := none) #[true,true,true,true,true,true,true,true,true,true,true,true,true] rfl rfl (one_of HT_.out zk) (by decide) (fun K hK => ?_)
                     refine skip_ (w1 := ?_) (by rfl) rfl ?_ ?_
                     rotate_left
                     · go_simp
                       rfl
                     refine hK.out _ _ ?_
                     clear hK K
                     refine done_ (done_of HT_.out zk) ?_
                     try go_wp2
                     (try simp only [← hl8_2])
                     go_roundg k2
                     case measure => have := HK1.out; have := HK2.out; omega
                     case rel => exact ⟨(y113), (wrap64 (x29_2 + 1)), zF, H', ⟨by have := HK1.out; have := HK2.out; omega⟩, ⟨by (try simp only [hl8_2]); (with_reducible repeat (first | apply Kd.N_alloc | apply Kd.N_drewN | apply Kd.N_drew)); exact Kd.N_mono (Kd.N_far (p := ⟨go22, (x29_2 : Int).toNat, none⟩) (Kd.N_mono HO_6.out (fun k_ hk => (⟨hk, fun e_ => hk.2 (by rw [e_]; rfl)⟩ : _ ∧ k_ ≠ go22))) (fun _ hk => hk.2) (.int .i64 (wrap64 ((rd x8_2 x29_2) - (rd l1 x29_2))))) (fun _ hk => ⟨hk.1.1, hk.1.2⟩)⟩, ⟨by (try simp only [hl8_2]); refine zR ?_; exact HQ24.out⟩, ⟨zB⟩⟩
                   · rw [if_neg c21] at H
                     exact absurd H (by simp)
                 · rw [if_neg c20] at H
                   exact absurd H (by simp)
               · rw [if_neg c19] at H
                 exact absurd H (by simp)
             · rw [if_neg c18] at H
               have c18b0 : decide (x29_2 < (t108.length : Int)) = false := decide_eq_false c18
               (try simp only [hl8_2] at c18b0)
               (try simp only [hl8_2] at c18b0)
               clear c18
               by_cases c25 : 0 ≤ x7_1
               · rw [if_pos c25] at H
                 have c25b0 : decide (0 ≤ x7_1) = true := decide_eq_true c25
                 clear c25
                 by_cases c26 : x7_1 < (l0.length : Int)
                 · rw [if_pos c26] at H
                   have c26b0 : decide (x7_1 < (l0.length : Int)) = true := decide_eq_true c26
                   clear c26
                   by_cases c27 : 0 ≤ (rd l0 x7_1)
                   · rw [if_pos c27] at H
                     have c27b0 : decide (0 ≤ (rd l0 x7_1)) = true := decide_eq_true c27
                     clear c27
                     by_cases c28 : (rd l0 x7_1) < (x8_2.length : Int)
                     · rw [if_pos c28] at H
                       have c28b0 : decide ((rd l0 x7_1) < (x8_2.length : Int)) = true := decide_eq_true c28
                       clear c28
                       obtain ⟨y117, hy117⟩ : ∃ y_ : List Int, y_ = (x8_2.set ((rd l0 x7_1) : Int).toNat (wrap64 ((rd x8_2 (rd l0 x7_1)) + (l0.length : Int)))) := ⟨_, rfl⟩
                       replace H : (if x6_1.length < 5864062014805 then (spec_l07Differences.l0 k2 l0 l1 (l0.length : Int) (x6_1 ++ [y117]) (wrap64 (x7_1 + 1))) else (none)) = some r := zH hy117
                       have Ny117 := Aside0.mk hy117
                       clear hy117
                       by_cases c30 : x6_1.length < 5864062014805
                       · rw [if_pos c30] at H
                         have LMc30 := Aside0.mk c30
                         clear c30
                         obtain ⟨y118, hy118⟩ : ∃ y_ : List (List Int), y_ = (x6_1 ++ [y117]) := ⟨_, rfl⟩
                         replace H : (spec_l07Differences.l0 k2 l0 l1 (l0.length : Int) y118 (wrap64 (x7_1 + 1))) = some r := zH hy118
                         have Ny118 := Aside0.mk hy118
                         clear hy118
                         have H' := Aside0.mk H
                         clear H
                         try go_wp2
                         have n_ := y3 (Kd.N_drew HO_6.out) (Kd.R_drew HO_8.out) (below_drew1 HB.out)
                         clear HO_6 HO_8 HB
                         obtain ⟨HO_6, HO_8, HB⟩ := n_
                         have p114 : 0 ≤ (x7_1 : Int) := zD
                         have q114 : x7_1 < (l0.length : Int) := zD
                         obtain ⟨ad114, e114, hx114_0⟩ := Kd.at_int HR0.out x7_1 p114 q114
                         have hw114_0 := hx114_0
                         cases e114
                         replace hx114_0 := (HB.out.cell (World.block_lt_of_cell? w _ hx114_0)).trans hx114_0
                         replace p114 := eq_true p114
                         replace q114 := eq_true q114
                         have p115 : 0 ≤ (x7_1 : Int) := zD
                         have q115 : x7_1 < (l0.length : Int) := zD
                         obtain ⟨ad115, e115, hx115_0⟩ := Kd.at_int HR0.out x7_1 p115 q115
                         have hw115_0 := hx115_0
                         obtain rfl : ad114 = ad115 := (by injection e115)
                         replace hx115_0 := (HB.out.cell (World.block_lt_of_cell? w _ hx115_0)).trans hx115_0
                         replace p115 := eq_true p115
                         replace q115 := eq_true q115
                         have p116 : 0 ≤ ((rd l0 x7_1) : Int) := zD
                         have q116 : (rd l0 x7_1) < (x8_2.length : Int) := zD
                         obtain ⟨ad116, e116, hx116_0⟩ := Kd.at_int (Kd.R_reads' HO_8.out).2.2 (rd l0 x7_1) p116 q116
                         cases e116
                         replace p116 := eq_true p116
                         replace q116 := eq_true q116
                         have p29 : 0 ≤ ((rd l0 x7_1) : Int) := zD
                         have q29 : ((rd l0 x7_1) : Int) < ((x8_2.length : Int) : Int) := zD
                         obtain ⟨go29, co29, eo29, gb29, gl29, cl29, HG29⟩ := Kd.R_form HO_8.out (by omega)
                         (first | cases eo29 | (injection eo29 with ea_ en_ ec_; (first | subst ea_ | (injection ea_ with ea_; subst ea_)); subst ec_; clear en_))
                         have GB29 := Aside0.mk gb29
                         have GG29 := Aside0.mk HG29
                         clear gb29 gl29 HG29
                         (first | simp only [add_plain] at hx116_0 | skip)
                         obtain ⟨hx29_0, hf29_0⟩ := Kd.R_celln 0 HO_8.out ((rd l0 x7_1) : Int) p29 q29
                         replace p29 := eq_true p29
                         replace q29 := eq_true q29
                         have HP32 := Kd.R_putn HO_8.out ((rd l0 x7_1) : Int) (wrap64 ((rd x8_2 (rd l0 x7_1)) + (l0.length : Int)))
                         rw [← Ny117.out] at HP32
                         have HQ32 := Aside0.mk HP32
                         clear HP32
                         refine start_ (n := 16) (S := fun w' => w'.cell? (ad114.add (x7_1).toNat) = some (.int .i64 (rd l0 x7_1)) ∧ w'.cell? (ad114.add (x7_1).toNat) = some (.int .i64 (rd l0 x7_1)) ∧ w'.cell? ⟨go29, ((rd l0 x7_1)).toNat, none⟩ = some (.int .i64 (rd x8_2 (rd l0 x7_1)))) (ds := [15]) #[false,false,false,false,false,false,false,false,false,false,false,false,false,false,false,false] zk rfl rfl ⟨((HB.out.cell (World.block_lt_of_cell? w _ hw114_0)).trans hw114_0), ((HB.out.cell (World.block_lt_of_cell? w _ hw115_0)).trans hw115_0), hx116_0⟩ (fun hHeld => ?_); refine with_tabW spec_l07Differences.tab11 spec_l07Differences.bits11 (fun HT_ HW_ => ?_)
                         generalize wr.drew = w31 at HO_6 HO_8 HB GG29 HQ32 hf29_0 hx114_0 hx115_0 hx116_0 hx29_0 hHeld ⊢
                         refine pure_ (i := 0) (N := some 45) (v := ?_) (a' := ?_) #[true,false,false,false,false,false,false,false,false,false,false,false,false,false,false,false] rfl rfl (any_of HT_.out zk) (fun _ _ _ h => h) (Or.inl ⟨by rfl, ?_⟩) ?_ ?_
                         rotate_left; exact zp; rotate_left; exact zq
                         refine pure_ (i := 1) (N := some 46) (v := ?_) (a' := ?_) #[true,true,false,false,false,false,false,false,false,false,false,false,false,false,false,false] rfl rfl (any_of HT_.out zk) (fun _ _ _ h => h) (Or.inl ⟨by rfl, ?_⟩) ?_ ?_
                         rotate_left; exact zp; rotate_left; exact zq
                         refine pure_ (i := 2) (N := some 47) (v := ?_) (a' := ?_) #[true,true,true,false,false,false,false,false,false,false,false,false,false,false,false,false] rfl rfl (any_of HT_.out zk) (fun _ _ _ h => h) (Or.inl ⟨by rfl, ?_⟩) ?_ ?_
                         rotate_left; exact zp; rotate_left; exact zq
                         refine pure_ (i := 3) (N := some 48) (v := ?_) (a' := ?_) #[true,true,true,true,false,false,false,false,false,false,false,false,false,false,false,false] rfl rfl (any_of HT_.out zk) (fun _ _ _ h => h) (Or.inl ⟨by rfl, ?_⟩) ?_ ?_
                         rotate_left; exact zp; rotate_left; exact zq
                         refine pure_ (i := 5) (N := some 50) (v := ?_) (a' := ?_) #[true,true,true,true,false,true,false,false,false,false,false,false,false,false,false,false] rfl rfl (any_of HT_.out zk) (fun _ _ _ h => h) (Or.inl ⟨by rfl, ?_⟩) ?_ ?_
                         rotate_left; exact zp; rotate_left; exact zq
                         refine pure_ (i := 6) (N := some 51) (v := ?_) (a' := ?_) #[true,true,true,true,false,true,true,false,false,false,false,false,false,false,false,false] rfl rfl (any_of HT_.out zk) (fun _ _ _ h => h) (Or.inl ⟨by rfl, ?_⟩) ?_ ?_
                         rotate_left; exact zp; rotate_left; exact zq
                         refine pure_ (i := 7) (N := some 52) (v := ?_) (a' := ?_) #[true,true,true,true,false,true,true,true,false,false,false,false,false,false,false,false] rfl rfl (any_of HT_.out zk) (fun _ _ _ h => h) (Or.inl ⟨by rfl, ?_⟩) ?_ ?_
                         rotate_left; exact zp; rotate_left; exact zq
                         refine pure_ (i := 8) (N := some 53) (v := ?_) (a' := ?_) #[true,true,true,true,false,true,true,true,true,false,false,false,false,false,false,false] rfl rfl (any_of HT_.out zk) (fun _ _ _ h => h) (Or.inl ⟨by rfl, ?_⟩) ?_ ?_
                         rotate_left; exact zp; rotate_left; exact zq
                         refine pure_ (i := 12) (N := some 57) (v := ?_) (a' := ?_) #[true,true,true,true,false,true,true,true,true,false,false,false,true,false,false,false] rfl rfl (any_of HT_.out zk) (fun _ _ _ h => h) (Or.inl ⟨by rfl, ?_⟩) ?_ ?_
                         rotate_left; exact zp; rotate_left; exact zq
                         refine take_ (i := 4) (N := some 49) (v := ?_) (a' := ?_) #[true,true,true,true,true,true,true,true,true,false,false,false,true,false,false,false] rfl rfl (take_ofW HT_.out HW_.out zk) (fun _ _ _ h => h) (Or.inl ⟨by rfl, ?_⟩) hHeld ?_ ?_
                         rotate_left
                         · rintro w' ⟨s0, s1, s2⟩
                           go_simp
                           with_reducible rfl
                         rotate_left
                         · simp only [Act.put, List.setIfInBounds_toArray, List.set_cons_zero, List.set_cons_succ, i64_w, i32_w]
                           rfl
                         refine take_ (i := 9) (N := some 54) (v := ?_) (a' := ?_) #[true,true,true,true,true,true,true,true,true,true,false,false,true,false,false,false] rfl rfl (take_ofW HT_.out HW_.out zk) (fun _ _ _ h => h) (Or.inl ⟨by rfl, ?_⟩) hHeld ?_ ?_
                         rotate_left
                         · rintro w' ⟨s0, s1, s2⟩
                           go_simp
                           with_reducible rfl
                         rotate_left
                         · simp only [Act.put, List.setIfInBounds_toArray, List.set_cons_zero, List.set_cons_succ, i64_w, i32_w]
                           rfl
                         refine pure_ (i := 10) (N := some 55) (v := ?_) (a' := ?_) #[true,true,true,true,true,true,true,true,true,true,true,false,true,false,false,false] rfl rfl (any_of HT_.out zk) (fun _ _ _ h => h) (Or.inl ⟨by rfl, ?_⟩) ?_ ?_
                         rotate_left; exact zp; rotate_left; exact zq
                         refine take_ (i := 11) (N := some 56) (v := ?_) (a' := ?_) #[true,true,true,true,true,true,true,true,true,true,true,true,true,false,false,false] rfl rfl (take_ofW HT_.out HW_.out zk) (fun _ _ _ h => h) (Or.inl ⟨by rfl, ?_⟩) hHeld ?_ ?_
                         rotate_left
                         · rintro w' ⟨s0, s1, s2⟩
                           go_simp
                           with_reducible rfl
                         rotate_left
                         · simp only [Act.put, List.setIfInBounds_toArray, List.set_cons_zero, List.set_cons_succ, i64_w, i32_w]
                           rfl
                         refine pure_ (i := 13) (N := some 58) (v := ?_) (a' := ?_) #[true,true,true,true,true,true,true,true,true,true,true,true,true,true,false,false] rfl rfl (any_of HT_.out zk) (fun _ _ _ h => h) (Or.inl ⟨by rfl, ?_⟩) ?_ ?_
                         rotate_left; exact zp; rotate_left; exact zq
                         refine pure_ (i := 14) (N := some 59) (v := ?_) (a' := ?_) #[true,true,true,true,true,true,true,true,true,true,true,true,true,true,true,false] rfl rfl (any_of HT_.out zk) (fun _ _ _ h => h) (Or.inl ⟨by rfl, ?_⟩) ?_ ?_
                         rotate_left; exact zp; rotate_left; exact zq
                         refine last_ (i := 15) (N := none) #[true,true,true,true,true,true,true,true,true,true,true,true,true,true,true,true] rfl rfl (one_of HT_.out zk) (by decide) (fun K hK => ?_)
                         refine skip_ (w1 := ?_) (by rfl) rfl ?_ ?_
                         rotate_left
                         · go_simp
                           rfl
                         refine hK.out _ _ ?_
                         clear hK K
                         refine done_ (done_of HT_.out zk) ?_
                         have n0_ : Aside0 (Kd.N (Kd.slice 2 (Kd.int .i64)) 24 (w31.setCell ⟨go29, ((rd l0 x7_1) : Int).toNat, none⟩ (.int .i64 (wrap64 ((rd x8_2 (rd l0 x7_1)) + (l0.length : Int))))) w.heap.size (fun k_ => (w.heap.size ≤ k_) ∧ some k_ ≠ (.slice (some ⟨go29, 0, none⟩) x8_2.length co17 : Value).ownBlock) (.slice (some ad107) x6_1.length co15) x6_1) := ⟨by (with_reducible repeat (first | apply Kd.N_alloc | apply Kd.N_drewN | apply Kd.N_drew)); exact Kd.N_mono (Kd.N_far (p := ⟨go29, ((rd l0 x7_1) : Int).toNat, none⟩) (Kd.N_mono HO_6.out (fun k_ hk => (⟨hk, fun e_ => hk.2 (by rw [e_]; rfl)⟩ : _ ∧ k_ ≠ go29))) (fun _ hk => hk.2) (.int .i64 (wrap64 ((rd x8_2 (rd l0 x7_1)) + (l0.length : Int))))) (fun _ hk => ⟨hk.1.1, hk.1.2⟩)⟩
                         have n1_ : Aside0 (Kd.R (Kd.int .i64) 2 (w31.setCell ⟨go29, ((rd l0 x7_1) : Int).toNat, none⟩ (.int .i64 (wrap64 ((rd x8_2 (rd l0 x7_1)) + (l0.length : Int))))) w.heap.size (fun k_ => (w.heap.size ≤ k_)) (.slice (some ⟨go29, 0, none⟩) x8_2.length co17) y117) := ⟨zR HQ32.out⟩
                         have n2_ : Aside0 (Below w.heap.size w (w31.setCell ⟨go29, ((rd l0 x7_1) : Int).toNat, none⟩ (.int .i64 (wrap64 ((rd x8_2 (rd l0 x7_1)) + (l0.length : Int)))))) := ⟨zB⟩
                         (try clear HO_6)
                         (try clear HO_8)
                         (try clear HB)
                         generalize (w31.setCell ⟨go29, ((rd l0 x7_1) : Int).toNat, none⟩ (.int .i64 (wrap64 ((rd x8_2 (rd l0 x7_1)) + (l0.length : Int))))) = w33 at n0_ n1_ n2_ ⊢
                         have HO_6 := n0_
                         have HO_8 := n1_
                         have HB := n2_
                         clear n0_ n1_ n2_
                         have hl9_ := (Kd.R_reads' HO_8.out).1
                         rw [hl9_] at HO_8
                         (try simp only [hl9_])
                         (try simp only [hl9_] at HO_6)
                         try go_wp2_with (first | ((with_reducible refine gate_builtin (b := .append) (xs := #[.tmp 60, .tmp 62]) rfl ?_); at_builtin; refine Kd.N_append (Kd.slice 2 (Kd.int .i64)) (w0 := w) w.heap.size rfl (.tmp 60) (.tmp 62) 66 24 (.slice none 0 0) 24 rfl Try.underlying66 info24 rfl (by decide) (by omega) (.slice (some ad107) x6_1.length co15) x6_1 y117 [.slice (some ⟨go29, 0, none⟩) y117.length co17] (fun k_ => (w.heap.size ≤ k_)) (fun k_ => ((fun k_ => (w.heap.size ≤ k_))) k_ ∧ some k_ ≠ (.slice (some ad107) x6_1.length co15 : Value).ownBlock) rfl rfl ?aP (fun _ hk => hk) ?aF ?aO ?aB ?aS ?aL ?_; (case aP => exact (Kd.FK_slice_mk (Kd.R_reads' (Kd.R_mono (ok' := (fun k_ => ((fun k_ => (w.heap.size ≤ k_))) k_ ∧ some k_ ≠ (.slice (some ad107) x6_1.length co15 : Value).ownBlock)) (Kd.R_apart' (HO_8.out) (Kd.N_typed HO_6.out) (by decide)) (fun k_ hk => ⟨hk.1, hk.2⟩))).2.1 (Kd.R_F (Kd.R_mono (ok' := (fun k_ => ((fun k_ => (w.heap.size ≤ k_))) k_ ∧ some k_ ≠ (.slice (some ad107) x6_1.length co15 : Value).ownBlock)) (Kd.R_apart' (HO_8.out) (Kd.N_typed HO_6.out) (by decide)) (fun k_ hk => ⟨hk.1, hk.2⟩))))); (case aB => exact (zB)); (case aF => exact (fun k_ hk => (Nat.le_trans (below_size (zB)) hk))); (case aO => exact (by (with_reducible repeat (first | apply Kd.N_alloc | apply Kd.N_drewN | apply Kd.N_drew)); exact Kd.N_mono HO_6.out (fun _ hk => hk.1))); (case aS => exact (below_size (zB))); (case aL => have := LMc30.out; omega); intro v119 w34 ho hb hg hat; rw [← Ny118.out] at ho; have n_ := y2 (hb) (ho); clear HB HO_6 HO_8; obtain ⟨HB, HO120⟩ := n_; clear ho hb hg hat))
                         (try simp only [← hl8_2])
                         go_roundg k2
                         case measure => have := HK1.out; have := HK2.out; omega
                         case rel => exact ⟨(y118), (wrap64 (x7_1 + 1)), zF, H', ⟨by have := HK1.out; have := HK2.out; omega⟩, ⟨by (try simp only [hl8_2]); (with_reducible repeat (first | apply Kd.N_alloc | apply Kd.N_drewN | apply Kd.N_drew)); exact HO120.out⟩, ⟨zB⟩⟩
                       · rw [if_neg c30] at H
                         exact absurd H (by simp)
                     · rw [if_neg c28] at H
                       exact absurd H (by simp)
                   · rw [if_neg c27] at H
                     exact absurd H (by simp)
                 · rw [if_neg c26] at H
                   exact absurd H (by simp)
               · rw [if_neg c25] at H
                 exact absurd H (by simp)
       · rw [if_neg c13] at H
         exact absurd H (by simp)
     · rw [if_neg c12] at H
       exact absurd H (by simp)
   · rw [if_neg c11] at H
     have c11b0 : decide (x7_1 < (l0.length : Int)) = false := decide_eq_false c11
     clear c11
     obtain rfl := Option.some.inj H
     go_wp2
     go_ret
     exact ⟨_, zE, by (with_reducible repeat (first | apply Kd.N_alloc | apply Kd.N_drewN | apply Kd.N_drew)); exact HO_6.out, zB⟩
end Go.Proofs.Ytpmconnonleokaa.P
end
section
namespace Go.Proofs.Ytpmconnonleokaa.P
open Go.RowKit Go.Proofs.YtpmconnonleokaaW.PrintWords Go.Proofs.YtpmconnonleokaaW.PrintLast Go.Proofs.YtpmconnonleokaaW.PrintMore
attribute [local go_sem] max2_int min2_int max_two min_two max_three min_three max_four min_four   -- for this text's walks alone
set_option linter.unusedVariables false
set_option linter.unusedSimpArgs false
mutual
def spec_DifferenceAt.j0 : Nat → List Int → Int → Int → Bool → Option (Int × Int)
  | 0, _, _, _, _ => none
  | k + 1, x0, x1, x2, x21 => if x21 = true then (some (0, 2)) else (spec_DifferenceAt.l0 k x0 x1 x2 (-1) (x0.length : Int) 0)
def spec_DifferenceAt.l0 : Nat → List Int → Int → Int → Int → Int → Int → Option (Int × Int)
  | 0, _, _, _, _, _, _ => none
  | k + 1, x0, x1, x2, x8, x23, x24 => if x24 < x23 then (if 0 ≤ x24 then (if x24 < (x0.length : Int) then (spec_DifferenceAt.l0 k x0 x1 x2 (mx x8 (rd x0 x24)) x23 (wrap64 (x24 + 1))) else (none)) else (none)) else ((spec_l01In.f x2 0 x8).bind fun t104 => (if t104 = true then ((spec_l07Given.f k x0).bind fun bt105 => (if bt105.2 = 0 then ((spec_l07Differences.f k x0 bt105.1).bind fun t109 => (if 0 ≤ x1 then (if x1 < (t109.length : Int) then (if 0 ≤ x2 then (if x2 < ((rd_L2 t109 x1).length : Int) then (some (rd (rd_L2 t109 x1) x2, 0)) else (none)) else (none)) else (none)) else (none))) else (some (0, bt105.2)))) else (some (0, 2))))
end
def spec_DifferenceAt.f (k : Nat) (l0 : List Int) (a1 : Int) (a2 : Int) : Option (Int × Int) := (spec_l01Turns.f k l0 8).bind fun t101 => (if t101 = true then ((spec_l01In.f a1 0 (l0.length : Int)).bind fun t102 => (spec_DifferenceAt.j0 k l0 a1 a2 (!t102))) else (spec_DifferenceAt.j0 k l0 a1 a2 true))
theorem spec_DifferenceAt.mono_l : ∀ k, (∀ y0 y1 y2 y3, LeO (spec_DifferenceAt.j0 k y0 y1 y2 y3) (spec_DifferenceAt.j0 (k + 1) y0 y1 y2 y3)) ∧ (∀ y0 y1 y2 y3 y4 y5, LeO (spec_DifferenceAt.l0 k y0 y1 y2 y3 y4 y5) (spec_DifferenceAt.l0 (k + 1) y0 y1 y2 y3 y4 y5))
  | 0 => ⟨fun _ _ _ _ r h => by simp [spec_DifferenceAt.j0] at h, fun _ _ _ _ _ _ r h => by simp [spec_DifferenceAt.l0] at h⟩
  | k + 1 => by
    obtain ⟨ih0, ih1⟩ := spec_DifferenceAt.mono_l k
    refine ⟨?_, ?_⟩ <;> intros <;> (first | unfold spec_DifferenceAt.j0 | unfold spec_DifferenceAt.l0) <;> repeat' first | (with_reducible exact ih0 _ _ _ _) | (with_reducible exact ih1 _ _ _ _ _ _) | (with_reducible exact spec_l01Turns.mono _ _ _) | (with_reducible exact spec_l07Differences.mono _ _ _) | (with_reducible exact spec_l07Given.mono _ _) | (with_reducible exact LeO.refl _) | (with_reducible exact LeO.none _) | (with_reducible refine LeO.ite ?_ ?_) | (with_reducible refine LeO.bind ?_ (fun _ => ?_)) | exact ih0 _ _ _ _ | exact ih1 _ _ _ _ _ _ | exact spec_l01Turns.mono _ _ _ | exact spec_l07Differences.mono _ _ _ | exact spec_l07Given.mono _ _ | exact LeO.none _ | refine LeO.ite ?_ ?_ | refine LeO.bind ?_ (fun _ => ?_)
theorem spec_DifferenceAt.mono : ∀ a0 a1 a2 k, LeO (spec_DifferenceAt.f k a0 a1 a2) (spec_DifferenceAt.f (k + 1) a0 a1 a2) := by
  intro a0 a1 a2 k
  obtain ⟨ih0, ih1⟩ := spec_DifferenceAt.mono_l k
  unfold spec_DifferenceAt.f
  repeat' first | (with_reducible exact ih0 _ _ _ _) | (with_reducible exact ih1 _ _ _ _ _ _) | (with_reducible exact spec_l01Turns.mono _ _ _) | (with_reducible exact spec_l07Differences.mono _ _ _) | (with_reducible exact spec_l07Given.mono _ _) | (with_reducible exact LeO.refl _) | (with_reducible exact LeO.none _) | (with_reducible refine LeO.ite ?_ ?_) | (with_reducible refine LeO.bind ?_ (fun _ => ?_)) | exact ih0 _ _ _ _ | exact ih1 _ _ _ _ _ _ | exact spec_l01Turns.mono _ _ _ | exact spec_l07Differences.mono _ _ _ | exact spec_l07Given.mono _ _ | exact LeO.none _ | refine LeO.ite ?_ ?_ | refine LeO.bind ?_ (fun _ => ?_)
set_option maxHeartbeats 8000000 in
set_option maxRecDepth 100000 in
theorem spec_DifferenceAt.calls (k : Nat) (A0 : Option Addr) (c0 : Nat) (l0 : List Int) (a1 : Int) (a2 : Int) (r1 : Int) (r2 : Int) (w : World) (hr0 : Kd.C (Kd.int .i64) w A0 l0.length l0) (hc0 : l0.length ≤ c0) (h : spec_DifferenceAt.f k l0 a1 a2 = some (r1, r2)) :
    Calls Try.prog 24 #[.slice A0 l0.length c0, .int .i64 a1, .int .i64 a2] w fun e w' => e = .returned (.tuple #[.int .i64 r1, .int .i64 r2]) ∧ Below w.heap.size w w' := by
 have HR0 := Aside0.mk hr0
 have HC0 := Aside0.mk hc0
 clear hr0 hc0
 have HB := Aside0.mk (Below.refl w.heap.size w)
 have H : ((spec_l01Turns.f k l0 8).bind fun t101 => (if t101 = true then ((spec_l01In.f a1 0 (l0.length : Int)).bind fun t102 => (spec_DifferenceAt.j0 k l0 a1 a2 (!t102))) else (spec_DifferenceAt.j0 k l0 a1 a2 true))) = some (r1, r2) := h
 clear h
 have HC4 := Aside0.mk H
 clear H
 go_enter Try.func24, Try.ntmps24
 go_upto_region 1 with (fail)
 go_cut [21] (fun v21 wc => ∃ (kq : Nat) (x21_3 : Bool), v21 = .bool x21_3 ∧ Aside0 (spec_DifferenceAt.j0 kq l0 a1 a2 x21_3 = some (r1, r2)) ∧ Aside0 (kq ≤ k) ∧ Aside0 (Below w.heap.size w wc))
 case first =>
  have H := HC4.out
  clear HC4
  replace H := Option.bind_eq_some_iff.mp H
  obtain ⟨t101, A50, H⟩ := H
  replace H : (if t101 = true then ((spec_l01In.f a1 0 (l0.length : Int)).bind fun t102 => (spec_DifferenceAt.j0 k l0 a1 a2 (!t102))) else (spec_DifferenceAt.j0 k l0 a1 a2 true)) = some (r1, r2) := H
  have A5 := Aside0.mk A50
  clear A50
  by_cases c6 : t101 = true
  ·
   subst c6
   have H1 : ((spec_l01In.f a1 0 (l0.length : Int)).bind fun t102 => (spec_DifferenceAt.j0 k l0 a1 a2 (!t102))) = some (r1, r2) := by rw [if_pos rfl] at H; exact H
   clear H
   have H := H1
   clear H1
   replace H := Option.bind_eq_some_iff.mp H
   obtain ⟨t102, A70, H⟩ := H
   replace H : (spec_DifferenceAt.j0 k l0 a1 a2 (!t102)) = some (r1, r2) := H
   have A7 := Aside0.mk A70
   clear A70
   have H' := Aside0.mk H
   clear H
   go_wp2_with (first | ((with_reducible refine gate_callee (f := 52) rfl ?_); refine goesL_ (some 13) rfl rfl Try.func52 zk rfl #[.slice A0 l0.length c0, .int .i64 8] rfl zA ?_; (with_reducible refine (spec_l01Turns.calls k _ _ l0 8 true _ ?side1 ?side2 A5.out).mono ?_); (case side1 => exact zC (Kd.C_below HR0.out HB.out)); (case side2 => exact HC0.out); rintro e w' ⟨rfl, ⟨nd, rfl⟩⟩; refine ⟨_, rfl, ?_⟩) | (go_at_call 43; (with_reducible refine (spec_l01In.calls a1 0 (l0.length : Int) t102 _ A7.out).mono ?_); rintro e w' ⟨rfl, ⟨nd, rfl⟩⟩))
   go_meet
   case rel => exact ⟨_, (!t102), zF, H', ⟨by first | omega | exact Nat.le_refl _⟩, ⟨zB⟩⟩
  replace c6 := Bool.eq_false_iff.mpr c6
  subst c6
  have H1 : (spec_DifferenceAt.j0 k l0 a1 a2 true) = some (r1, r2) := by rw [if_neg (show ¬ (false = true) by decide)] at H; exact H
  clear H
  have H := H1
  clear H1
  have H' := Aside0.mk H
  clear H
  go_wp2_with (first | ((with_reducible refine gate_callee (f := 52) rfl ?_); refine goesL_ (some 13) rfl rfl Try.func52 zk rfl #[.slice A0 l0.length c0, .int .i64 8] rfl zA ?_; (with_reducible refine (spec_l01Turns.calls k _ _ l0 8 false _ ?side1 ?side2 A5.out).mono ?_); (case side1 => exact zC (Kd.C_below HR0.out HB.out)); (case side2 => exact HC0.out); rintro e w' ⟨rfl, ⟨nd, rfl⟩⟩; refine ⟨_, rfl, ?_⟩))
  go_meet
  case rel => exact ⟨_, (true), zF, H', ⟨by first | omega | exact Nat.le_refl _⟩, ⟨zB⟩⟩
 clear HC4
 obtain ⟨kq, x21_3, rfl, HA, HJ3, HB⟩ := hcut
 cases kq with
 | zero => exact absurd HA.out (by simp [spec_DifferenceAt.j0])
 | succ kj3 =>
   have H := HA.out
   clear HA
   simp only [spec_DifferenceAt.j0] at H
   by_cases c8 : x21_3 = true
   · subst c8
     have H1 : (some (0, 2)) = some (r1, r2) := by rw [if_pos rfl] at H; exact H
     clear H
     have H := H1
     clear H1
     simp only [Option.some.injEq, Prod.mk.injEq] at H
     obtain ⟨rfl, rfl⟩ := H
     go_wp2
     go_ret2
     exact ⟨zE, zB⟩
   · replace c8 := Bool.eq_false_iff.mpr c8
     subst c8
     have H1 : (spec_DifferenceAt.l0 kj3 l0 a1 a2 (-1) (l0.length : Int) 0) = some (r1, r2) := by rw [if_neg (show ¬ (false = true) by decide)] at H; exact H
     clear H
     have H := H1
     clear H1
     have H' := Aside0.mk H
     clear H
     go_wp2
     go_loopg [8, 24] kj3 (fun kq v8 v24 w' => ∃ (x8_2 : Int) (x24_2 : Int), v8 = .int .i64 x8_2 ∧ v24 = .int .i64 x24_2 ∧ Aside0 (spec_DifferenceAt.l0 kq l0 a1 a2 x8_2 (l0.length : Int) x24_2 = some (r1, r2)) ∧ Aside0 (kq ≤ kj3) ∧ Aside0 (Below w.heap.size w w'))
     case atStart => exact ⟨((-1)), (0), zF, zF, H', ⟨Nat.le_refl _⟩, ⟨zB⟩⟩
     case round =>
       clear H'
       try clear c8
       obtain ⟨x8_2, x24_2, rfl, rfl, HA, HK2, HB⟩ := hrel
       cases gk with
       | zero => exact absurd HA.out (by simp [spec_DifferenceAt.l0])
       | succ k2 =>
         have H := HA.out
         clear HA
         simp only [spec_DifferenceAt.l0] at H
         by_cases c9 : x24_2 < (l0.length : Int)
         · rw [if_pos c9] at H
           have c9b0 : decide (x24_2 < (l0.length : Int)) = true := decide_eq_true c9
           clear c9
           by_cases c10 : 0 ≤ x24_2
           · rw [if_pos c10] at H
             have c10b0 : decide (0 ≤ x24_2) = true := decide_eq_true c10
             clear c10
             by_cases c11 : x24_2 < (l0.length : Int)
             · rw [if_pos c11] at H
               have c11b0 : decide (x24_2 < (l0.length : Int)) = true := decide_eq_true c11
               clear c11
               obtain ⟨ji12, hji12⟩ : ∃ j_ : Int, (mx x8_2 (rd l0 x24_2)) = j_ := ⟨_, rfl⟩
               replace H : (spec_DifferenceAt.l0 k2 l0 a1 a2 ji12 (l0.length : Int) (wrap64 (x24_2 + 1))) = some (r1, r2) := by first | (rw [hji12] at H; exact H) | (simp only [hji12] at H ⊢; exact H)
               have hji12_ : (if x8_2 < (rd l0 x24_2) then (rd l0 x24_2) else x8_2) = ji12 := hji12
               have H' := Aside0.mk H
               clear H
               have p103 : 0 ≤ (x24_2 : Int) := zD
               have q103 : x24_2 < (l0.length : Int) := zD
               obtain ⟨ad103, e103, hx103_0⟩ := Kd.at_int HR0.out x24_2 p103 q103
               cases e103
               replace hx103_0 := (HB.out.cell (World.block_lt_of_cell? w _ hx103_0)).trans hx103_0
               replace p103 := eq_true p103
               replace q103 := eq_true q103
               go_wp2
               go_roundg k2
               case measure => have := HJ3.out; have := HK2.out; omega
               case rel => exact ⟨(ji12), (wrap64 (x24_2 + 1)), (by first | rfl | (simp; done) | (simp only [← hji12] <;> (first | rfl | simp)) | (simp [*]; done)), zF, H', ⟨by have := HJ3.out; have := HK2.out; omega⟩, ⟨zB⟩⟩
             · rw [if_neg c11] at H
               exact absurd H (by simp)
           · rw [if_neg c10] at H
             exact absurd H (by simp)
         · rw [if_neg c9] at H
           have c9b0 : decide (x24_2 < (l0.length : Int)) = false := decide_eq_false c9
           clear c9
           replace H := Option.bind_eq_some_iff.mp H
           obtain ⟨t104, A130, H⟩ := H
           replace H : (if t104 = true then ((spec_l07Given.f k2 l0).bind fun bt105 => (if bt105.2 = 0 then ((spec_l07Differences.f k2 l0 bt105.1).bind fun t109 => (if 0 ≤ a1 then (if a1 < (t109.length : Int) then (if 0 ≤ a2 then (if a2 < ((rd_L2 t109 a1).length : Int) then (some (rd (rd_L2 t109 a1) a2, 0)) else (none)) else (none)) else (none)) else (none))) else (some (0, bt105.2)))) else (some (0, 2))) = some (r1, r2) := H
           have A13 := Aside0.mk A130
           clear A130
           by_cases c14 : t104 = true
           · subst c14
             have H1 : ((spec_l07Given.f k2 l0).bind fun bt105 => (if bt105.2 = 0 then ((spec_l07Differences.f k2 l0 bt105.1).bind fun t109 => (if 0 ≤ a1 then (if a1 < (t109.length : Int) then (if 0 ≤ a2 then (if a2 < ((rd_L2 t109 a1).length : Int) then (some (rd (rd_L2 t109 a1) a2, 0)) else (none)) else (none)) else (none)) else (none))) else (some (0, bt105.2)))) = some (r1, r2) := by rw [if_pos rfl] at H; exact H
             clear H
             have H := H1
             clear H1
             replace H := Option.bind_eq_some_iff.mp H
             obtain ⟨⟨t105, t106⟩, A150, H⟩ := H
             replace H : (if t106 = 0 then ((spec_l07Differences.f k2 l0 t105).bind fun t109 => (if 0 ≤ a1 then (if a1 < (t109.length : Int) then (if 0 ≤ a2 then (if a2 < ((rd_L2 t109 a1).length : Int) then (some (rd (rd_L2 t109 a1) a2, 0)) else (none)) else (none)) else (none)) else (none))) else (some (0, t106))) = some (r1, r2) := H
             have A15 := Aside0.mk A150
             clear A150
             by_cases c16 : t106 = 0
             · rw [if_pos c16] at H
               have c16b0 : (t106 == 0) = true := beq_iff_eq.mpr c16
               have c16b1 : (t106 != 0) = false := bne_eq_false_iff_eq.mpr c16
               clear c16
               replace H := Option.bind_eq_some_iff.mp H
               obtain ⟨t109, A170, H⟩ := H
               replace H : (if 0 ≤ a1 then (if a1 < (t109.length : Int) then (if 0 ≤ a2 then (if a2 < ((rd_L2 t109 a1).length : Int) then (some (rd (rd_L2 t109 a1) a2, 0)) else (none)) else (none)) else (none)) else (none)) = some (r1, r2) := H
               have A17 := Aside0.mk A170
               clear A170
               by_cases c18 : 0 ≤ a1
               · rw [if_pos c18] at H
                 have c18b0 : decide (0 ≤ a1) = true := decide_eq_true c18
                 clear c18
                 by_cases c19 : a1 < (t109.length : Int)
                 · rw [if_pos c19] at H
                   have c19b0 : decide (a1 < (t109.length : Int)) = true := decide_eq_true c19
                   clear c19
                   by_cases c20 : 0 ≤ a2
                   · rw [if_pos c20] at H
                     have c20b0 : decide (0 ≤ a2) = true := decide_eq_true c20
                     clear c20
                     by_cases c21 : a2 < ((rd_L2 t109 a1).length : Int)
                     · rw [if_pos c21] at H
                       have c21b0 : decide (a2 < ((rd_L2 t109 a1).length : Int)) = true := decide_eq_true c21
                       clear c21
                       simp only [Option.some.injEq, Prod.mk.injEq] at H
                       obtain ⟨rfl, rfl⟩ := H
                       go_wp2_with (first | ((with_reducible refine gate_callee (f := 43) rfl ?_); refine goesL_ (some 36) rfl rfl Try.func43 zk rfl #[.int .i64 a2, .int .i64 0, .int .i64 x8_2] rfl zA ?_; (with_reducible refine (spec_l01In.calls a2 0 x8_2 true _ A13.out).mono ?_); rintro e w' ⟨rfl, ⟨nd, rfl⟩⟩; refine ⟨_, rfl, ?_⟩) | ((with_reducible refine gate_callee (f := 49) rfl ?_); refine goesL_ (some 40) rfl rfl Try.func49 zk rfl #[.slice A0 l0.length c0] rfl zA ?_; (with_reducible refine (spec_l07Given.calls k2 _ _ l0 t105 t106 _ ?side1 ?side2 A15.out).mono ?_); (case side1 => exact zC (Kd.C_below HR0.out (zB))); (case side2 => exact HC0.out); rintro e w22 ⟨v107, rfl, ho0, hb⟩; refine ⟨_, rfl, ?_⟩; have n_ := y2 (Kd.R_lower ho0 (below_size (zB))) (below_step (zB) hb); clear HB; obtain ⟨HO108, HB⟩ := n_; (try clear hb); (try clear hb2); (try clear hk); (try clear hi); (try clear ho0); obtain ⟨Ao23, co23, eo23⟩ := Kd.R_slice HO108.out; subst eo23) | ((with_reducible refine gate_callee (f := 53) rfl ?_); refine goesL_ (some 48) rfl rfl Try.func53 zk rfl #[.slice A0 l0.length c0, .slice Ao23 t105.length co23] rfl zA ?_; (with_reducible refine (spec_l07Differences.calls k2 _ _ l0 _ _ t105 t109 _ ?side1 ?side2 ?side3 ?side4 A17.out).mono ?_); (case side1 => exact zC (Kd.C_below HR0.out HB.out)); (case side2 => exact HC0.out); (case side3 => exact zC (Kd.R_reads' HO108.out).2.2); (case side4 => exact (Kd.R_reads' HO108.out).2.1); rintro e w24 ⟨v110, rfl, ho0, hb⟩; refine ⟨_, rfl, ?_⟩; have n_ := y3 (Kd.R_below (zR HO108.out) hb) (Kd.N_lower (Kd.N_mono (ok' := fun k_ => some k_ ≠ (.slice Ao23 t105.length co23 : Value).ownBlock) ho0 (fun k_ hk_ => (Kd.fresh' (Kd.R_lt (zR HO108.out)) k_ hk_))) (below_size (zB))) (below_step (zB) hb); clear HO108 HB; obtain ⟨HO108, HO111, HB⟩ := n_; (try clear hb); (try clear hb2); (try clear hk); (try clear hi); (try clear ho0); obtain ⟨Ao25, co25, eo25⟩ := Kd.N_slice HO111.out; subst eo25; have p112 : 0 ≤ (a1 : Int) := zD; have q112 : a1 < (t109.length : Int) := zD; obtain ⟨ad112, A112_0, c112_0, e112, hx112_0, hl112_0, hi112_0⟩ := at_L2 (Kd.N_reads' HO111.out).2.2 a1 p112 q112; cases e112; obtain ⟨ce112, hce112, hMe112, hcc112⟩ := Kd.N_get HO111.out [] a1 p112 (by first | exact q112 | exact zD | (have e_ := (Kd.N_reads' HO111.out).1; omega)); obtain ⟨ua112_0, uc112_0, rfl, ul112_0, ge112_0⟩ := Kd.FK_slice_open hMe112; have hv112_0 := hcc112 0 _ rfl; rw [Nat.add_zero, show ((Kd.slice 2 (Kd.int .i64))).sz = 1 from rfl, Nat.mul_one] at hv112_0; replace hv112_0 := Option.some.inj (hv112_0.symm.trans hx112_0); injection hv112_0 with hva_ hvn_ hvc_; rw [hva_] at ge112_0; rw [hvc_] at ul112_0; have HL112_0 := Aside0.mk (show Kd.V (Kd.int .i64) 2 _ w.heap.size _ _ (rd_L2 t109 a1) from Kd.V_mk ul112_0 ge112_0); clear hva_ hvn_ hvc_ ge112_0 ul112_0; clear hcc112 hce112; have HR112_0 := Aside0.mk hi112_0; have HC112_0 := Aside0.mk hl112_0; clear hi112_0 hl112_0; replace p112 := eq_true p112; replace q112 := eq_true q112; have p113 : 0 ≤ (a2 : Int) := zD; have q113 : a2 < ((rd_L2 t109 a1).length : Int) := zD; obtain ⟨ad113, e113, hx113_0⟩ := Kd.at_int (by repeat (first | (with_reducible exact HR112_0.out) | (with_reducible refine Kd.C_alloc ?_ _) | (with_reducible refine Kd.C_drewN ?_ _) | (with_reducible refine Kd.C_drew ?_) | exact HR112_0.out)) a2 p113 q113; cases e113; replace p113 := eq_true p113; replace q113 := eq_true q113))
                       go_ret2
                       exact ⟨zE, zB⟩
                     · rw [if_neg c21] at H
                       exact absurd H (by simp)
                   · rw [if_neg c20] at H
                     exact absurd H (by simp)
                 · rw [if_neg c19] at H
                   exact absurd H (by simp)
               · rw [if_neg c18] at H
                 exact absurd H (by simp)
             · rw [if_neg c16] at H
               have c16b0 : (t106 == 0) = false := beq_eq_false_iff_ne.mpr c16
               have c16b1 : (t106 != 0) = true := bne_iff_ne.mpr c16
               simp only [Option.some.injEq, Prod.mk.injEq] at H
               obtain ⟨rfl, rfl⟩ := H
               go_wp2_with (first | ((with_reducible refine gate_callee (f := 43) rfl ?_); refine goesL_ (some 36) rfl rfl Try.func43 zk rfl #[.int .i64 a2, .int .i64 0, .int .i64 x8_2] rfl zA ?_; (with_reducible refine (spec_l01In.calls a2 0 x8_2 true _ A13.out).mono ?_); rintro e w' ⟨rfl, ⟨nd, rfl⟩⟩; refine ⟨_, rfl, ?_⟩) | ((with_reducible refine gate_callee (f := 49) rfl ?_); refine goesL_ (some 40) rfl rfl Try.func49 zk rfl #[.slice A0 l0.length c0] rfl zA ?_; (with_reducible refine (spec_l07Given.calls k2 _ _ l0 t105 t106 _ ?side1 ?side2 A15.out).mono ?_); (case side1 => exact zC (Kd.C_below HR0.out (zB))); (case side2 => exact HC0.out); rintro e w26 ⟨v107, rfl, ho0, hb⟩; refine ⟨_, rfl, ?_⟩; have n_ := y2 (Kd.R_lower ho0 (below_size (zB))) (below_step (zB) hb); clear HB; obtain ⟨HO108, HB⟩ := n_; (try clear hb); (try clear hb2); (try clear hk); (try clear hi); (try clear ho0)))
               go_ret2
               exact ⟨zE, zB⟩
           · replace c14 := Bool.eq_false_iff.mpr c14
             subst c14
             have H1 : (some (0, 2)) = some (r1, r2) := by rw [if_neg (show ¬ (false = true) by decide)] at H; exact H
             clear H
             have H := H1
             clear H1
             simp only [Option.some.injEq, Prod.mk.injEq] at H
             obtain ⟨rfl, rfl⟩ := H
             go_wp2_with (first | ((with_reducible refine gate_callee (f := 43) rfl ?_); refine goesL_ (some 36) rfl rfl Try.func43 zk rfl #[.int .i64 a2, .int .i64 0, .int .i64 x8_2] rfl zA ?_; (with_reducible refine (spec_l01In.calls a2 0 x8_2 false _ A13.out).mono ?_); rintro e w' ⟨rfl, ⟨nd, rfl⟩⟩; refine ⟨_, rfl, ?_⟩))
             go_ret2
             exact ⟨zE, zB⟩
end Go.Proofs.Ytpmconnonleokaa.P
end
section
namespace Go.Proofs.Ytpmconnonleokaa.P
open Go.RowKit Go.Proofs.YtpmconnonleokaaW.PrintWords Go.Proofs.YtpmconnonleokaaW.PrintLast Go.Proofs.YtpmconnonleokaaW.PrintMore
attribute [local go_sem] max2_int min2_int max_two min_two max_three min_three max_four min_four   -- for this text's walks alone
set_option linter.unusedVariables false
set_option linter.unusedSimpArgs false
mutual
def laws_FnLevel.j0 : Nat → List Int → List Int → List Int → Int → Int → List Int → Bool → Option (Bool)
  | 0, _, _, _, _, _, _, _ => none
  | k + 1, x0, x3, x4, x5, x6, x10, x109 => if x109 = true then (some false) else (if x6 = 0 then ((impl_GreatestDifference.f k x4).bind fun bt125 => ((impl_GreatestDifference.f k x10).bind fun bt127 => (laws_FnLevel.l0 k x0 x3 x4 x5 x10 bt125.1 bt125.2 bt127.1 bt127.2 (x3.length : Int) 0 (([] : List Int))))) else (laws_FnLevel.j3 k x0))
def laws_FnLevel.j3 : Nat → List Int → Option (Bool)
  | 0, _ => none
  | k + 1, x0 => (spec_DrawDeadlineTurns.f k x0).bind fun bt152 => ((impl_DeadlineTurns.f k bt152.1 bt152.2).bind fun bt156 => ((spec_DeadlineTurns.f k bt152.1 bt152.2).bind fun bt160 => (if bt156.2 = bt160.2 then ((laws_likeInts.f k bt156.1 bt160.1).bind fun t164 => (laws_FnLevel.j4 k x0 bt152.2 bt156.1 bt156.2 (!t164))) else (laws_FnLevel.j4 k x0 bt152.2 bt156.1 bt156.2 true))))
def laws_FnLevel.j4 : Nat → List Int → Int → List Int → Int → Bool → Option (Bool)
  | 0, _, _, _, _, _ => none
  | k + 1, x0, x28, x29, x30, x228 => if x228 = true then (some false) else (if x30 = 0 then ((impl_GreatestDifference.f k x29).bind fun bt165 => (if bt165.2 = 0 then (if bt165.1 > x28 then (some false) else (laws_FnLevel.j5 k x0)) else (some false))) else (laws_FnLevel.j5 k x0))
def laws_FnLevel.j5 : Nat → List Int → Option (Bool)
  | 0, _ => none
  | k + 1, x0 => (spec_DrawDoubledTurns.f k x0).bind fun t167 => ((impl_DoubledTurns.f k t167).bind fun bt168 => ((spec_DoubledTurns.f k t167).bind fun bt172 => (if bt168.2 = bt172.2 then ((laws_likeInts.f k bt168.1 bt172.1).bind fun t176 => (laws_FnLevel.j6 k x0 t167 bt168.1 bt168.2 (!t176))) else (laws_FnLevel.j6 k x0 t167 bt168.1 bt168.2 true))))
def laws_FnLevel.j6 : Nat → List Int → Int → List Int → Int → Bool → Option (Bool)
  | 0, _, _, _, _, _ => none
  | k + 1, x0, x35, x36, x37, x263 => if x263 = true then (some false) else (if x37 = 0 then ((impl_AreBalanced.f k x36).bind fun bt177 => (if bt177.2 = 0 then (if bt177.1 = true then (if 0 ≤ (IntKind.u64.wrap (x35)) then (if (x36.length : Int) = (wrap64 ((shl .i64 1 (IntKind.u64.wrap (x35))) - 1)) then (laws_FnLevel.j7 k x0) else (some false)) else (none)) else (some false)) else (some false))) else (laws_FnLevel.j7 k x0))
def laws_FnLevel.j7 : Nat → List Int → Option (Bool)
  | 0, _ => none
  | k + 1, x0 => (spec_DrawAreBalanced.f k x0).bind fun t179 => ((impl_AreBalanced.f k t179).bind fun bt182 => ((spec_AreBalanced.f k t179).bind fun bt184 => ((spec_DrawDifferenceAt.f k x0).bind fun bt186 => ((impl_DifferenceAt.f k bt186.1 bt186.2.1 bt186.2.2).bind fun bt191 => ((spec_DifferenceAt.f k bt186.1 bt186.2.1 bt186.2.2).bind fun bt193 => (if bt182.2 = bt184.2 then (if (bt182.1 == bt184.1) = true then (if bt191.2 = bt193.2 then (some (bt191.1 == bt193.1)) else (some false)) else (some false)) else (some false)))))))
def laws_FnLevel.l0 : Nat → List Int → List Int → List Int → Int → List Int → Int → Int → Int → Int → Int → Int → List Int → Option (Bool)
  | 0, _, _, _, _, _, _, _, _, _, _, _, _ => none
  | k + 1, x0, x3, x4, x5, x10, x14, x15, x16, x17, x125, x126, x133000 => if x126 < x125 then (if x133000.length < 17592186044416 then (laws_FnLevel.l0 k x0 x3 x4 x5 x10 x14 x15 x16 x17 x125 (wrap64 (x126 + 1)) (x133000 ++ [1])) else (none)) else ((impl_SharesOf.f k x133000 x4).bind fun bt136 => ((impl_SharesOf.f k x133000 x10).bind fun bt141 => (if x15 = 0 then (if x17 = 0 then (if bt136.2.2 = 0 then (if bt141.2.2 = 0 then (if x14 = x5 then (if x14 > x16 then (laws_FnLevel.j2 k x0 x3 x5 true) else ((laws_likeInts.f k bt136.1 x3).bind fun t146 => (if t146 = true then ((laws_likeInts.f k bt141.1 x3).bind fun t147 => (if t147 = true then (if bt136.2.1 = 0 then (laws_FnLevel.j2 k x0 x3 x5 (bt141.2.1 != 0)) else (laws_FnLevel.j2 k x0 x3 x5 true)) else (laws_FnLevel.j2 k x0 x3 x5 true))) else (laws_FnLevel.j2 k x0 x3 x5 true)))) else (laws_FnLevel.j2 k x0 x3 x5 true)) else (laws_FnLevel.j2 k x0 x3 x5 true)) else (laws_FnLevel.j2 k x0 x3 x5 true)) else (laws_FnLevel.j2 k x0 x3 x5 true)) else (laws_FnLevel.j2 k x0 x3 x5 true))))
def laws_FnLevel.j2 : Nat → List Int → List Int → Int → Bool → Option (Bool)
  | 0, _, _, _, _ => none
  | k + 1, x0, x3, x5, x191 => if x191 = true then (some false) else (if x5 > 0 then ((impl_DeadlineTurns.f k x3 (wrap64 (x5 - 1))).bind fun bt148 => (if bt148.2 = 4 then (laws_FnLevel.j3 k x0) else (some false))) else (laws_FnLevel.j3 k x0))
end
def laws_FnLevel.f (k : Nat) (l0 : List Int) : Option (Bool) := (laws_big.f l0).bind fun t101 => (if t101 = true then (some true) else ((spec_DrawLeastDifference.f k l0).bind fun t102 => ((impl_LeastDifference.f k t102).bind fun bt105 => ((spec_LeastDifference.f k t102).bind fun bt110 => ((impl_GreedyTurns.f k t102).bind fun bt115 => ((spec_GreedyTurns.f k t102).bind fun bt119 => (if bt105.2.2 = bt110.2.2 then ((laws_likeInts.f k bt105.1 bt110.1).bind fun t123 => (if t123 = true then (if bt105.2.1 = bt110.2.1 then (if bt115.2 = bt119.2 then ((laws_likeInts.f k bt115.1 bt119.1).bind fun t124 => (if t124 = true then (laws_FnLevel.j0 k l0 t102 bt105.1 bt105.2.1 bt105.2.2 bt115.1 (bt105.2.2 != bt115.2)) else (laws_FnLevel.j0 k l0 t102 bt105.1 bt105.2.1 bt105.2.2 bt115.1 true))) else (laws_FnLevel.j0 k l0 t102 bt105.1 bt105.2.1 bt105.2.2 bt115.1 true)) else (laws_FnLevel.j0 k l0 t102 bt105.1 bt105.2.1 bt105.2.2 bt115.1 true)) else (laws_FnLevel.j0 k l0 t102 bt105.1 bt105.2.1 bt105.2.2 bt115.1 true))) else (laws_FnLevel.j0 k l0 t102 bt105.1 bt105.2.1 bt105.2.2 bt115.1 true))))))))
theorem laws_FnLevel.mono_l : ∀ k, (∀ y0 y1 y2 y3 y4 y5 y6, LeO (laws_FnLevel.j0 k y0 y1 y2 y3 y4 y5 y6) (laws_FnLevel.j0 (k + 1) y0 y1 y2 y3 y4 y5 y6)) ∧ (∀ y0, LeO (laws_FnLevel.j3 k y0) (laws_FnLevel.j3 (k + 1) y0)) ∧ (∀ y0 y1 y2 y3 y4, LeO (laws_FnLevel.j4 k y0 y1 y2 y3 y4) (laws_FnLevel.j4 (k + 1) y0 y1 y2 y3 y4)) ∧ (∀ y0, LeO (laws_FnLevel.j5 k y0) (laws_FnLevel.j5 (k + 1) y0)) ∧ (∀ y0 y1 y2 y3 y4, LeO (laws_FnLevel.j6 k y0 y1 y2 y3 y4) (laws_FnLevel.j6 (k + 1) y0 y1 y2 y3 y4)) ∧ (∀ y0, LeO (laws_FnLevel.j7 k y0) (laws_FnLevel.j7 (k + 1) y0)) ∧ (∀ y0 y1 y2 y3 y4 y5 y6 y7 y8 y9 y10 y11, LeO (laws_FnLevel.l0 k y0 y1 y2 y3 y4 y5 y6 y7 y8 y9 y10 y11) (laws_FnLevel.l0 (k + 1) y0 y1 y2 y3 y4 y5 y6 y7 y8 y9 y10 y11)) ∧ (∀ y0 y1 y2 y3, LeO (laws_FnLevel.j2 k y0 y1 y2 y3) (laws_FnLevel.j2 (k + 1) y0 y1 y2 y3))
  | 0 => ⟨fun _ _ _ _ _ _ _ r h => by simp [laws_FnLevel.j0] at h, fun _ r h => by simp [laws_FnLevel.j3] at h, fun _ _ _ _ _ r h => by simp [laws_FnLevel.j4] at h, fun _ r h => by simp [laws_FnLevel.j5] at h, fun _ _ _ _ _ r h => by simp [laws_FnLevel.j6] at h, fun _ r h => by simp [laws_FnLevel.j7] at h, fun _ _ _ _ _ _ _ _ _ _ _ _ r h => by simp [laws_FnLevel.l0] at h, fun _ _ _ _ r h => by simp [laws_FnLevel.j2] at h⟩
  | k + 1 => by
    obtain ⟨ih0, ih1, ih2, ih3, ih4, ih5, ih6, ih7⟩ := laws_FnLevel.mono_l k
    refine ⟨?_, ?_, ?_, ?_, ?_, ?_, ?_, ?_⟩ <;> intros <;> (first | unfold laws_FnLevel.j0 | unfold laws_FnLevel.j3 | unfold laws_FnLevel.j4 | unfold laws_FnLevel.j5 | unfold laws_FnLevel.j6 | unfold laws_FnLevel.j7 | unfold laws_FnLevel.l0 | unfold laws_FnLevel.j2) <;> repeat' first | (with_reducible exact ih0 _ _ _ _ _ _ _) | (with_reducible exact ih1 _) | (with_reducible exact ih2 _ _ _ _ _) | (with_reducible exact ih3 _) | (with_reducible exact ih4 _ _ _ _ _) | (with_reducible exact ih5 _) | (with_reducible exact ih6 _ _ _ _ _ _ _ _ _ _ _ _) | (with_reducible exact ih7 _ _ _ _) | (with_reducible exact impl_AreBalanced.mono _ _) | (with_reducible exact impl_DeadlineTurns.mono _ _ _) | (with_reducible exact impl_DifferenceAt.mono _ _ _ _) | (with_reducible exact impl_DoubledTurns.mono _ _) | (with_reducible exact impl_GreatestDifference.mono _ _) | (with_reducible exact impl_GreedyTurns.mono _ _) | (with_reducible exact impl_LeastDifference.mono _ _) | (with_reducible exact impl_SharesOf.mono _ _ _) | (with_reducible exact laws_likeInts.mono _ _ _) | (with_reducible exact spec_AreBalanced.mono _ _) | (with_reducible exact spec_DeadlineTurns.mono _ _ _) | (with_reducible exact spec_DifferenceAt.mono _ _ _ _) | (with_reducible exact spec_DoubledTurns.mono _ _) | (with_reducible exact spec_DrawAreBalanced.mono _ _) | (with_reducible exact spec_DrawDeadlineTurns.mono _ _) | (with_reducible exact spec_DrawDifferenceAt.mono _ _) | (with_reducible exact spec_DrawDoubledTurns.mono _ _) | (with_reducible exact spec_DrawLeastDifference.mono _ _) | (with_reducible exact spec_GreedyTurns.mono _ _) | (with_reducible exact spec_LeastDifference.mono _ _) | (with_reducible exact LeO.refl _) | (with_reducible exact LeO.none _) | (with_reducible refine LeO.ite ?_ ?_) | (with_reducible refine LeO.bind ?_ (fun _ => ?_)) | exact ih0 _ _ _ _ _ _ _ | exact ih1 _ | exact ih2 _ _ _ _ _ | exact ih3 _ | exact ih4 _ _ _ _ _ | exact ih5 _ | exact ih6 _ _ _ _ _ _ _ _ _ _ _ _ | exact ih7 _ _ _ _ | exact impl_AreBalanced.mono _ _ | exact impl_DeadlineTurns.mono _ _ _ | exact impl_DifferenceAt.mono _ _ _ _ | exact impl_DoubledTurns.mono _ _ | exact impl_GreatestDifference.mono _ _ | exact impl_GreedyTurns.mono _ _ | exact impl_LeastDifference.mono _ _ | exact impl_SharesOf.mono _ _ _ | exact laws_likeInts.mono _ _ _ | exact spec_AreBalanced.mono _ _ | exact spec_DeadlineTurns.mono _ _ _ | exact spec_DifferenceAt.mono _ _ _ _ | exact spec_DoubledTurns.mono _ _ | exact spec_DrawAreBalanced.mono _ _ | exact spec_DrawDeadlineTurns.mono _ _ | exact spec_DrawDifferenceAt.mono _ _ | exact spec_DrawDoubledTurns.mono _ _ | exact spec_DrawLeastDifference.mono _ _ | exact spec_GreedyTurns.mono _ _ | exact spec_LeastDifference.mono _ _ | exact LeO.none _ | refine LeO.ite ?_ ?_ | refine LeO.bind ?_ (fun _ => ?_)
theorem laws_FnLevel.mono : ∀ a0 k, LeO (laws_FnLevel.f k a0) (laws_FnLevel.f (k + 1) a0) := by
  intro a0 k
  obtain ⟨ih0, ih1, ih2, ih3, ih4, ih5, ih6, ih7⟩ := laws_FnLevel.mono_l k
  unfold laws_FnLevel.f
  repeat' first | (with_reducible exact ih0 _ _ _ _ _ _ _) | (with_reducible exact ih1 _) | (with_reducible exact ih2 _ _ _ _ _) | (with_reducible exact ih3 _) | (with_reducible exact ih4 _ _ _ _ _) | (with_reducible exact ih5 _) | (with_reducible exact ih6 _ _ _ _ _ _ _ _ _ _ _ _) | (with_reducible exact ih7 _ _ _ _) | (with_reducible exact impl_AreBalanced.mono _ _) | (with_reducible exact impl_DeadlineTurns.mono _ _ _) | (with_reducible exact impl_DifferenceAt.mono _ _ _ _) | (with_reducible exact impl_DoubledTurns.mono _ _) | (with_reducible exact impl_GreatestDifference.mono _ _) | (with_reducible exact impl_GreedyTurns.mono _ _) | (with_reducible exact impl_LeastDifference.mono _ _) | (with_reducible exact impl_SharesOf.mono _ _ _) | (with_reducible exact laws_likeInts.mono _ _ _) | (with_reducible exact spec_AreBalanced.mono _ _) | (with_reducible exact spec_DeadlineTurns.mono _ _ _) | (with_reducible exact spec_DifferenceAt.mono _ _ _ _) | (with_reducible exact spec_DoubledTurns.mono _ _) | (with_reducible exact spec_DrawAreBalanced.mono _ _) | (with_reducible exact spec_DrawDeadlineTurns.mono _ _) | (with_reducible exact spec_DrawDifferenceAt.mono _ _) | (with_reducible exact spec_DrawDoubledTurns.mono _ _) | (with_reducible exact spec_DrawLeastDifference.mono _ _) | (with_reducible exact spec_GreedyTurns.mono _ _) | (with_reducible exact spec_LeastDifference.mono _ _) | (with_reducible exact LeO.refl _) | (with_reducible exact LeO.none _) | (with_reducible refine LeO.ite ?_ ?_) | (with_reducible refine LeO.bind ?_ (fun _ => ?_)) | exact ih0 _ _ _ _ _ _ _ | exact ih1 _ | exact ih2 _ _ _ _ _ | exact ih3 _ | exact ih4 _ _ _ _ _ | exact ih5 _ | exact ih6 _ _ _ _ _ _ _ _ _ _ _ _ | exact ih7 _ _ _ _ | exact impl_AreBalanced.mono _ _ | exact impl_DeadlineTurns.mono _ _ _ | exact impl_DifferenceAt.mono _ _ _ _ | exact impl_DoubledTurns.mono _ _ | exact impl_GreatestDifference.mono _ _ | exact impl_GreedyTurns.mono _ _ | exact impl_LeastDifference.mono _ _ | exact impl_SharesOf.mono _ _ _ | exact laws_likeInts.mono _ _ _ | exact spec_AreBalanced.mono _ _ | exact spec_DeadlineTurns.mono _ _ _ | exact spec_DifferenceAt.mono _ _ _ _ | exact spec_DoubledTurns.mono _ _ | exact spec_DrawAreBalanced.mono _ _ | exact spec_DrawDeadlineTurns.mono _ _ | exact spec_DrawDifferenceAt.mono _ _ | exact spec_DrawDoubledTurns.mono _ _ | exact spec_DrawLeastDifference.mono _ _ | exact spec_GreedyTurns.mono _ _ | exact spec_LeastDifference.mono _ _ | exact LeO.none _ | refine LeO.ite ?_ ?_ | refine LeO.bind ?_ (fun _ => ?_)
end Go.Proofs.Ytpmconnonleokaa.P
end
