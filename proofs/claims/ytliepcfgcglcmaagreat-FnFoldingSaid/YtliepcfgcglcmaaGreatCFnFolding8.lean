/- Folded tasks served by turns are served by the divided turns, the gaps that turns serve are the least ones, and who asks more has greater gaps. -/
import Derived.Test.YtliepcfgcglcmaaGreatCFnFolding7

set_option maxRecDepth 100000
set_option maxHeartbeats 8000000
section
namespace Go.Proofs.YtliepcfgcglcmaaGreat.P
open Go.RowKit Go.Proofs.YtliepcfgcglcmaaGreatW.PrintWords Go.Proofs.YtliepcfgcglcmaaGreatW.PrintLast Go.Proofs.YtliepcfgcglcmaaGreatW.PrintMore
attribute [local go_sem] Kn Kj Ld Li Kb Ke Kl Km
set_option linter.unusedVariables false
set_option linter.unusedSimpArgs false
theorem Bq.calls (k : Nat) (A0 : Option Addr) (c0 : Nat) (l0 : List Int) (r1 : List Int) (r2 : Int) (r3 : Int) (w : World) (hr0 : Kd.C (Kd.int .u8) w A0 l0.length l0) (hc0 : l0.length ≤ c0) (h : Bq.f k l0 = some (r1, r2, r3)) :
    Calls Tryz.prog 18 #[.slice A0 l0.length c0] w fun e w' => ∃ v0_ : Value, e = .returned (.tuple #[v0_, .int .i64 r2, .int .i64 r3]) ∧ Kd.R (Kd.int .i64) 2 w' w.heap.size (fun _ => True) v0_ r1 ∧ Below w.heap.size w w' := by
 have HR0 := Aa.mk hr0
 have HC0 := Aa.mk hc0
 clear hr0 hc0
 have HB := Aa.mk (Below.refl w.heap.size w)
 have H := h
 clear h
 unfold Bq.f at H
 obtain ⟨⟨t101, t102, t103⟩, A2, H⟩ := zO H
 try dsimp only at H
 obtain ⟨⟨t105, t106, t107⟩, A3, H⟩ := zO H
 try dsimp only at H
 obtain ⟨⟨t108, t111, t112⟩, A4, H⟩ := zO H
 try dsimp only at H
 have HC5 := Aa.mk H
 clear H
 go_enter Tryz.func18, Tryz.ntmps18
 go_upto_if 17 with (first | (refine gK 25 ?_; refine gL 9 Tryz.func25 #[.slice A0 l0.length c0] ?_; (with_reducible refine (Bj.calls k _ _ l0 t101 t102 t103 w _ ?side1 HR0.out HC0.out A2.out).mono ?_); (case side1 => exact zB); rintro e w6 ⟨g104, rfl, hi, hb, hb2⟩; refine ⟨_, rfl, ?_⟩; have n_ := y2 (hb) (hi); clear HB; obtain ⟨HB, HI104⟩ := n_; (try clear hi hb hb2)) | (refine gK 29 ?_; refine gL 12 Tryz.func29 #[.pointer (some ⟨g104, 0, none⟩), .int .i64 5] ?_; (with_reducible refine (Bf.calls g104 t101 t102 t103 5 t105 t106 t107 w _ ?side1 ?side2 A3.out).mono ?_); (case side1 => exact zX HI104.out); (case side2 => exact zB); rintro e w7 ⟨rfl, hi, hb, hk⟩; refine ⟨_, rfl, ?_⟩; have n_ := y2 (hb) (hi); clear HB HI104; obtain ⟨HB, HI104⟩ := n_; (try clear hi hb hk)) | (refine gK 64 ?_; refine gL 14 Tryz.func64 #[.pointer (some ⟨g104, 0, none⟩), .int .i64 (wrap64 (1 + t105))] ?_; (with_reducible refine (Bg.calls k g104 t101 t106 t107 (wrap64 (1 + t105)) t108 t111 t112 w _ ?side1 ?side2 A4.out).mono ?_); (case side1 => exact zX HI104.out); (case side2 => exact zB); rintro e w8 ⟨v109, rfl, ho0, hi, hb, hk⟩; refine ⟨_, rfl, ?_⟩; have n_ := y3 (Kd.Bk ho0 (An (zB))) (hb) (hi); clear HB HI104; obtain ⟨HO110, HB, HI104⟩ := n_; (try clear ho0 hi hb hk); obtain ⟨Ao9, co9, eo9⟩ := Kd.Bb HO110.out; subst eo9))
 (try simp only [Act.put, List.setIfInBounds_toArray, List.set_cons_zero, List.set_cons_succ])
 go_cut [6] (fun v6 wc => ∃ (kq : Nat) (x6_4 : List Int), Aa (Bq.j0 kq x6_4 t101 t111 t112 = some (r1, r2, r3)) ∧ Aa (kq ≤ k) ∧ Aa (Kd.R (Kd.int .i64) 2 wc w.heap.size (fun _ => True) v6 x6_4) ∧ Aa (Af w wc g104 t101 t111 t112) ∧ Aa (Below w.heap.size w wc))
 case first =>
  have H := HC5.out
  clear HC5
  by_cases c10 : (t108.length : Int) > 30
  case neg =>
   rw [if_neg c10] at H
   have c10b0 := decide_eq_false c10
   have c10b1 : decide (30 < t108.length) = false := decide_eq_false (by omega)
   clear c10
   (first | rw [c10b0] | (simp only [Ec, En]; rw [c10b0]) | skip)
   have H' := Aa.mk H
   clear H
   go_wp2
   go_meet
   case rel => exact ⟨_, (t108), H', ⟨by first | omega | exact Nat.le_refl _⟩, ⟨zR HO110.out⟩, ⟨zX HI104.out⟩, ⟨zB⟩⟩
  rw [if_pos c10] at H
  have c10b0 := decide_eq_true c10
  have c10b1 : decide (30 < t108.length) = true := decide_eq_true (by omega)
  clear c10
  (first | rw [c10b0] | (simp only [Ec, En]; rw [c10b0]) | skip)
  by_cases c11 : 30 ≤ (t108.length : Int)
  case neg => rw [if_neg c11] at H; exact absurd H (by simp)
  rw [if_pos c11] at H
  have c11b0 := eq_true c11
  have c11b1 := decide_eq_true c11
  clear c11
  obtain ⟨y113, hy113⟩ : ∃ y_ : List Int, y_ = (t108.take (30 : Int).toNat) := ⟨_, rfl⟩
  replace H : (Bq.j0 k y113 t101 t111 t112) = some (r1, r2, r3) := zH hy113
  have Ny113 := Aa.mk hy113
  clear hy113
  have H' := Aa.mk H
  clear H
  have q12 : (30 : Int) ≤ ((t108.length : Int) : Int) := zD
  obtain ⟨i012, hi012, _, hsz12, _⟩ := info_parts Gb
  have hcut12 := Ri (P := Tryz.prog) 24 2 .i64 Tryz.underlying24 hi012 Ao9 t108.length co9 30 (by omega) q12 (Kd.Ae HO110.out).2.1
  have hr12 := Kd.q2m (m := (30 : Int).toNat) HO110.out (by omega)
  have hy12 : y113.length = (30 : Int).toNat := (by rw [Ny113.out, List.length_take]; omega)
  rw [← Ny113.out] at hr12
  rw [← hy12] at hr12 hcut12
  clear hy12 hi012 hsz12 HO110
  have HO115 := Aa.mk hr12
  clear hr12
  replace q12 := eq_true q12
  go_wp2
  go_meet
  case rel => exact ⟨_, (y113), H', ⟨by first | omega | exact Nat.le_refl _⟩, ⟨zR HO115.out⟩, ⟨zX HI104.out⟩, ⟨zB⟩⟩
 clear HC5
 obtain ⟨kq, x6_4, HA, HJ4, HO_6, HI104, HB⟩ := hcut
 cases kq with
 | zero => exact absurd HA.out (by simp [Bq.j0])
 | succ kj4 =>
  have H := HA.out
  clear HA
  simp only [Bq.j0] at H
  obtain ⟨y116, hy116⟩ : ∃ y_ : List Int, y_ = (([1, 3, 7] : List Int)) := ⟨_, rfl⟩
  replace H : ((Co.f t101 t111 t112 y116).bind fun bt119 => ((El.f t101 bt119.2.1 bt119.2.2 bt119.1).bind fun bt122 => ((Br.f kj4 t101 bt122.2.1 bt122.2.2 x6_4).bind fun bt125 => ((Co.f t101 bt125.2.1 bt125.2.2 (([1, 2, 6] : List Int))).bind fun bt133 => ((El.f t101 bt133.2.1 bt133.2.2 bt133.1).bind fun bt136 => (some (bt125.1, bt122.1, wrap64 (2 + bt136.1)))))))) = some (r1, r2, r3) := zH hy116
  have Ny116 := Aa.mk hy116
  clear hy116
  obtain ⟨⟨t119, t120, t121⟩, A13, H⟩ := zO H
  try dsimp only at H
  obtain ⟨⟨t122, t123, t124⟩, A14, H⟩ := zO H
  try dsimp only at H
  obtain ⟨⟨t125, t128, t129⟩, A15, H⟩ := zO H
  try dsimp only at H
  obtain ⟨y130, hy130⟩ : ∃ y_ : List Int, y_ = (([1, 2, 6] : List Int)) := ⟨_, rfl⟩
  replace H : ((Co.f t101 t128 t129 y130).bind fun bt133 => ((El.f t101 bt133.2.1 bt133.2.2 bt133.1).bind fun bt136 => (some (t125, t122, wrap64 (2 + bt136.1))))) = some (r1, r2, r3) := zH hy130
  have Ny130 := Aa.mk hy130
  clear hy130
  obtain ⟨⟨t133, t134, t135⟩, A16, H⟩ := zO H
  try dsimp only at H
  obtain ⟨⟨t136, t137, t138⟩, A17, H⟩ := zO H
  try dsimp only at H
  simp only [Option.some.injEq, Prod.mk.injEq] at H
  obtain ⟨rfl, rfl, rfl⟩ := H
  go_wp2_with (first | ((with_reducible refine Ay (N := 22) rfl ?_); refine Kd.Kv (Kd.int .i64) _ 2 ?hg (N := 22) ?hd (xs := ([1, 3, 7] : List Int)) (inner := [.int .i64 1, .int .i64 3, .int .i64 7]) (ok := fun _ => True) (okp := fun _ => True) ?hr ?hp (fun _ hk => hk) trivial (Below.refl _ _) (Nat.le_refl _) (by simp) ?_; (case hd => rfl); (case hg => rfl); (case hr => first | (go_simp; done) | (go_simp; rfl)); (case hp => exact (Dk.one (show Kd.M (Kd.int .i64) _ _ _ 1 [.int .i64 1] from rfl) (Dk.one (show Kd.M (Kd.int .i64) _ _ _ 3 [.int .i64 3] from rfl) (Dk.one (show Kd.M (Kd.int .i64) _ _ _ 7 [.int .i64 7] from rfl) (Dk.none _ _))))); intro v117 w18 ho19 hb hg_ hnew_; clear hg_ hnew_; (first | rw [← Ny116.out] at ho19 | (simp only [Int.reduceToNat] at ho19; rw [← Ny116.out] at ho19)); have n_ := y4 (Kd.Bu (zR HO_6.out) (Kd.Bs ho19) hb) (Kd.Bk (Kd.Bt ho19 (Kd.Cx (zR HO_6.out))) (An (zB))) (Af.below (zX HI104.out) hb) (Ab (zB) hb); clear HO_6 HI104 HB; obtain ⟨HO_6, HO118, HI104, HB⟩ := n_; clear hb ho19; obtain ⟨Ao20, co20, eo20⟩ := Kd.Bb HO118.out; subst eo20) | (refine gK 52 ?_; refine gL 23 Tryz.func52 #[.pointer (some ⟨g104, 0, none⟩), .slice Ao20 y116.length co20] ?_; (with_reducible refine (Co.calls g104 t101 t111 t112 _ _ y116 t119 t120 t121 w _ ?side1 ?side2 ?side3 ?side4 ?side5 A13.out).mono ?_); (case side1 => exact zX HI104.out); (case side2 => exact zB); (case side3 => exact zC (Kd.Ae HO118.out).2.2); (case side4 => exact (Kd.Ae HO118.out).2.1); (case side5 => exact Gx (Af.Gd HI104.out HO118.out (by decide))); rintro e w21 ⟨rfl, hi, hb, hk⟩; refine ⟨_, rfl, ?_⟩; have n_ := y4 (Kd.Ai (Kd.Cz (Af.apart (show Af w _ g104 t101 t111 t112 from zX HI104.out) (zR HO_6.out) (by decide)) hk (fun _ h => h.2)) (fun _ h => h.1)) (Kd.Ai (Kd.Cz (Af.apart (show Af w _ g104 t101 t111 t112 from zX HI104.out) (zR HO118.out) (by decide)) hk (fun _ h => h.2)) (fun _ h => h.1)) (hb) (hi); clear HO_6 HO118 HB HI104; obtain ⟨HO_6, HO118, HB, HI104⟩ := n_; (try clear hi hb hk)) | (refine gK 27 ?_; refine gL 24 Tryz.func27 #[.pointer (some ⟨g104, 0, none⟩), .int .i64 t119] ?_; (with_reducible refine (El.calls g104 t101 t120 t121 t119 t122 t123 t124 w _ ?side1 ?side2 A14.out).mono ?_); (case side1 => exact zX HI104.out); (case side2 => exact zB); rintro e w22 ⟨rfl, hi, hb, hk⟩; refine ⟨_, rfl, ?_⟩; have n_ := y4 (Kd.Ai (Kd.Cz (Af.apart (show Af w _ g104 t101 t120 t121 from zX HI104.out) (zR HO_6.out) (by decide)) hk (fun _ h => h.2)) (fun _ h => h.1)) (Kd.Ai (Kd.Cz (Af.apart (show Af w _ g104 t101 t120 t121 from zX HI104.out) (zR HO118.out) (by decide)) hk (fun _ h => h.2)) (fun _ h => h.1)) (hb) (hi); clear HO_6 HO118 HB HI104; obtain ⟨HO_6, HO118, HB, HI104⟩ := n_; (try clear hi hb hk); obtain ⟨Ao23, co23, eo23⟩ := Kd.Bb HO_6.out; subst eo23) | (refine gK 53 ?_; refine gL 27 Tryz.func53 #[.pointer (some ⟨g104, 0, none⟩), .slice Ao23 x6_4.length co23] ?_; (with_reducible refine (Br.calls kj4 g104 t101 t123 t124 _ _ x6_4 t125 t128 t129 w _ ?side1 ?side2 ?side3 ?side4 ?side5 A15.out).mono ?_); (case side1 => exact zX HI104.out); (case side2 => exact zB); (case side3 => exact zC (Kd.Ae HO_6.out).2.2); (case side4 => exact (Kd.Ae HO_6.out).2.1); (case side5 => exact Gx (Af.Gd HI104.out HO_6.out (by decide))); rintro e w24 ⟨v126, rfl, ho0, hi, hb, hk⟩; refine ⟨_, rfl, ?_⟩; have n_ := y5 (Kd.Ai (Kd.Ez (Kd.No (Af.apart (show Af w _ g104 t101 t123 t124 from zX HI104.out) (zR HO_6.out) (by decide)) hk) (Kd.Bs ho0)) (fun _ h_ => h_.1)) (Kd.Ai (Kd.Ez (Kd.No (Af.apart (show Af w _ g104 t101 t123 t124 from zX HI104.out) (zR HO118.out) (by decide)) hk) (Kd.Bs ho0)) (fun _ h_ => h_.1)) (Kd.Bk (Kd.Bt (Kd.Bt ho0 (Kd.Cx (zR HO_6.out))) (Kd.Cx (zR HO118.out))) (An (zB))) (hb) (hi); clear HO_6 HO118 HB HI104; obtain ⟨HO_6, HO118, HO127, HB, HI104⟩ := n_; (try clear ho0 hi hb hk)) | ((with_reducible refine Ay (N := 31) rfl ?_); refine Kd.Kv (Kd.int .i64) _ 2 ?hg (N := 31) ?hd (xs := ([1, 2, 6] : List Int)) (inner := [.int .i64 1, .int .i64 2, .int .i64 6]) (ok := fun _ => True) (okp := fun _ => True) ?hr ?hp (fun _ hk => hk) trivial (Below.refl _ _) (Nat.le_refl _) (by simp) ?_; (case hd => rfl); (case hg => rfl); (case hr => first | (go_simp; done) | (go_simp; rfl)); (case hp => exact (Dk.one (show Kd.M (Kd.int .i64) _ _ _ 1 [.int .i64 1] from rfl) (Dk.one (show Kd.M (Kd.int .i64) _ _ _ 2 [.int .i64 2] from rfl) (Dk.one (show Kd.M (Kd.int .i64) _ _ _ 6 [.int .i64 6] from rfl) (Dk.none _ _))))); intro v131 w25 ho26 hb hg_ hnew_; clear hg_ hnew_; (first | rw [← Ny130.out] at ho26 | (simp only [Int.reduceToNat] at ho26; rw [← Ny130.out] at ho26)); have n_ := y6 (Kd.Bu (zR HO_6.out) (Kd.Bs ho26) hb) (Kd.Bu (zR HO118.out) (Kd.Bs ho26) hb) (Kd.Bu (zR HO127.out) (Kd.Bs ho26) hb) (Kd.Bk (Kd.Bt (Kd.Bt (Kd.Bt ho26 (Kd.Cx (zR HO_6.out))) (Kd.Cx (zR HO118.out))) (Kd.Cx (zR HO127.out))) (An (zB))) (Af.below (zX HI104.out) hb) (Ab (zB) hb); clear HO_6 HO118 HO127 HI104 HB; obtain ⟨HO_6, HO118, HO127, HO132, HI104, HB⟩ := n_; clear hb ho26; obtain ⟨Ao27, co27, eo27⟩ := Kd.Bb HO132.out; subst eo27) | (refine gK 52 ?_; refine gL 32 Tryz.func52 #[.pointer (some ⟨g104, 0, none⟩), .slice Ao27 y130.length co27] ?_; (with_reducible refine (Co.calls g104 t101 t128 t129 _ _ y130 t133 t134 t135 w _ ?side1 ?side2 ?side3 ?side4 ?side5 A16.out).mono ?_); (case side1 => exact zX HI104.out); (case side2 => exact zB); (case side3 => exact zC (Kd.Ae HO132.out).2.2); (case side4 => exact (Kd.Ae HO132.out).2.1); (case side5 => exact Gx (Af.Gd HI104.out HO132.out (by decide))); rintro e w28 ⟨rfl, hi, hb, hk⟩; refine ⟨_, rfl, ?_⟩; have n_ := y6 (Kd.Ai (Kd.Cz (Af.apart (show Af w _ g104 t101 t128 t129 from zX HI104.out) (zR HO_6.out) (by decide)) hk (fun _ h => h.2)) (fun _ h => h.1)) (Kd.Ai (Kd.Cz (Af.apart (show Af w _ g104 t101 t128 t129 from zX HI104.out) (zR HO118.out) (by decide)) hk (fun _ h => h.2)) (fun _ h => h.1)) (Kd.Ai (Kd.Cz (Af.apart (show Af w _ g104 t101 t128 t129 from zX HI104.out) (zR HO127.out) (by decide)) hk (fun _ h => h.2)) (fun _ h => h.1)) (Kd.Ai (Kd.Cz (Af.apart (show Af w _ g104 t101 t128 t129 from zX HI104.out) (zR HO132.out) (by decide)) hk (fun _ h => h.2)) (fun _ h => h.1)) (hb) (hi); clear HO_6 HO118 HO127 HO132 HB HI104; obtain ⟨HO_6, HO118, HO127, HO132, HB, HI104⟩ := n_; (try clear hi hb hk)) | (refine gK 27 ?_; refine gL 33 Tryz.func27 #[.pointer (some ⟨g104, 0, none⟩), .int .i64 t133] ?_; (with_reducible refine (El.calls g104 t101 t134 t135 t133 t136 t137 t138 w _ ?side1 ?side2 A17.out).mono ?_); (case side1 => exact zX HI104.out); (case side2 => exact zB); rintro e w29 ⟨rfl, hi, hb, hk⟩; refine ⟨_, rfl, ?_⟩; have n_ := y6 (Kd.Ai (Kd.Cz (Af.apart (show Af w _ g104 t101 t134 t135 from zX HI104.out) (zR HO_6.out) (by decide)) hk (fun _ h => h.2)) (fun _ h => h.1)) (Kd.Ai (Kd.Cz (Af.apart (show Af w _ g104 t101 t134 t135 from zX HI104.out) (zR HO118.out) (by decide)) hk (fun _ h => h.2)) (fun _ h => h.1)) (Kd.Ai (Kd.Cz (Af.apart (show Af w _ g104 t101 t134 t135 from zX HI104.out) (zR HO127.out) (by decide)) hk (fun _ h => h.2)) (fun _ h => h.1)) (Kd.Ai (Kd.Cz (Af.apart (show Af w _ g104 t101 t134 t135 from zX HI104.out) (zR HO132.out) (by decide)) hk (fun _ h => h.2)) (fun _ h => h.1)) (hb) (hi); clear HO_6 HO118 HO127 HO132 HB HI104; obtain ⟨HO_6, HO118, HO127, HO132, HB, HI104⟩ := n_; (try clear hi hb hk)))
  go_ret3
  exact ⟨_, zE, by refine zR ?_; exact Kd.Ai HO127.out (fun _ hk => trivial), zB⟩
def Df.l0 : Nat → Int → Int → Option (Int)
 | 0, _, _ => none
 | k + 1, x0, x1 => if x1 = 0 then (some x0) else (Df.l0 k x1 (Int.tmod x0 x1))
def Df.f (k : Nat) (a0 : Int) (a1 : Int) : Option (Int) := Df.l0 k a0 a1
theorem Df.mono_l : ∀ k, (∀ y0 y1, LeO (Df.l0 k y0 y1) (Df.l0 (k + 1) y0 y1))
 | 0 => fun _ _ r h => by simp [Df.l0] at h
 | k + 1 => by
  have ih0 := Df.mono_l k
  ·
   intro y0 y1
   unfold Df.l0
   repeat' first | (with_reducible first | exact ih0 _ _ | exact LeO.refl _ | exact LeO.none _ | refine LeO.ite ?_ ?_ | refine LeO.bind ?_ (fun _ => ?_)) | exact ih0 _ _ | exact LeO.none _ | refine LeO.ite ?_ ?_ | refine LeO.bind ?_ (fun _ => ?_)
theorem Df.mono : ∀ a0 a1 k, LeO (Df.f k a0 a1) (Df.f (k + 1) a0 a1) := by
 intro a0 a1 k
 have ih0 := Df.mono_l k
 unfold Df.f
 repeat' first | (with_reducible first | exact ih0 _ _ | exact LeO.refl _ | exact LeO.none _ | refine LeO.ite ?_ ?_ | refine LeO.bind ?_ (fun _ => ?_)) | exact ih0 _ _ | exact LeO.none _ | refine LeO.ite ?_ ?_ | refine LeO.bind ?_ (fun _ => ?_)
theorem Df.calls (k : Nat) (a0 : Int) (a1 : Int) (r : Int) (w : World) (h : Df.f k a0 a1 = some r) :
    Calls Tryz.prog 65 #[.int .i64 a0, .int .i64 a1] w fun e w' => e = .returned (.int .i64 r) ∧ Ct w w' := by
 have H := h
 clear h
 unfold Df.f at H
 have H' := Aa.mk H
 clear H
 go_enter Tryz.func65, Tryz.ntmps65
 go_wp2
 go_loopg [0, 1] k (fun kq v0 v1 w' => ∃ (x0_1 : Int) (x1_1 : Int), v0 = .int .i64 x0_1 ∧ v1 = .int .i64 x1_1 ∧ Aa (Df.l0 kq x0_1 x1_1 = some r) ∧ Aa (kq ≤ k) ∧ Ct w w')
 case atStart => exact ⟨(a0), (a1), zF, zF, H', ⟨Nat.le_refl _⟩, by repeat (first | exact Ct.refl _ | apply Ct.step)⟩
 clear H'
 obtain ⟨x0_1, x1_1, rfl, rfl, HA, HK1, ⟨m1, rfl⟩⟩ := hrel
 cases gk with
 | zero => exact absurd HA.out (by simp [Df.l0])
 | succ k1 =>
  have H := HA.out
  clear HA
  simp only [Df.l0] at H
  by_cases c3 : x1_1 = 0
  ·
   rw [if_pos c3] at H
   have c3b0 : (x1_1 == 0) = true := beq_iff_eq.mpr c3
   have c3b1 : (x1_1 != 0) = false := bne_eq_false_iff_eq.mpr c3
   clear c3
   obtain rfl := Option.some.inj H
   go_wp2
   go_ret
   exact ⟨by first | rfl | (simp; done) | (simp [*]; done), by repeat (first | exact Ct.refl _ | apply Ct.step)⟩
  rw [if_neg c3] at H
  have c3b0 : (x1_1 == 0) = false := beq_eq_false_iff_ne.mpr c3
  have c3b1 : (x1_1 != 0) = true := bne_iff_ne.mpr c3
  have H' := Aa.mk H
  clear H
  go_wp2
  go_roundg k1
  case measure => have := HK1.out; omega
  case rel => exact ⟨(x1_1), (Int.tmod x0_1 x1_1), zF, zF, H', ⟨by have := HK1.out; omega⟩, by repeat (first | exact Ct.refl _ | apply Ct.step)⟩
mutual
def Aj.j0 : Nat → List Int → Int → Int → Bool → Option (List Int × Int)
 | 0, _, _, _, _ => none
 | k + 1, x0, x1, x2, x28 => if x28 = true then (some (([] : List Int), 2)) else (Aj.l0 k x0 x1 x2 0 x1 0)
def Aj.l0 : Nat → List Int → Int → Int → Int → Int → Int → Option (List Int × Int)
 | 0, _, _, _, _, _, _ => none
 | k + 1, x0, x1, x2, x8, x9, x10 => if x10 < (x0.length : Int) then (if 0 ≤ x10 then (if (rd x0 x10) = x1 then (Aj.l0 k x0 x1 x2 (wrap64 (x8 + 1)) (mx x9 (rd x0 x10)) (wrap64 (x10 + 1))) else (Aj.l0 k x0 x1 x2 x8 (mx x9 (rd x0 x10)) (wrap64 (x10 + 1)))) else (none)) else (if x8 = 0 then (some (([] : List Int), 4)) else ((Df.f k x8 x2).bind fun t107 => (if t107 = 0 then (none) else (if (wrap64 ((wrap64 (x9 + x2)) - 1)) ≥ 8 then (Aj.j2 k x0 x1 x2 x9 (wrap64 (Int.tdiv x2 t107)) true) else (Aj.j2 k x0 x1 x2 x9 (wrap64 (Int.tdiv x2 t107)) (decide ((wrap64 ((wrap64 (Int.tdiv x2 t107)) * (x0.length : Int))) > 120)))))))
def Aj.j2 : Nat → List Int → Int → Int → Int → Int → Bool → Option (List Int × Int)
 | 0, _, _, _, _, _, _ => none
 | k + 1, x0, x1, x2, x9, x11, x68 => if x68 = true then (some (([] : List Int), 3)) else (Aj.l1 k x0 x1 x2 x9 x11 (([] : List Int)) 0)
def Aj.l1 : Nat → List Int → Int → Int → Int → Int → List Int → Int → Option (List Int × Int)
 | 0, _, _, _, _, _, _, _ => none
 | k + 1, x0, x1, x2, x9, x11, x12, x13 => if x11 > 0 then (Aj.l2 k x0 x1 x2 x9 x11 x12 x13 0) else (some (x12, 0))
def Aj.l2 : Nat → List Int → Int → Int → Int → Int → List Int → Int → Int → Option (List Int × Int)
 | 0, _, _, _, _, _, _, _, _ => none
 | k + 1, x0, x1, x2, x9, x11, x12, x13, x14 => if x14 < (x0.length : Int) then (if 0 ≤ x14 then (if (rd x0 x14) = x1 then (if x13 > 0 then (if x2 = 0 then (none) else (if x12.length < 17592186044416 then (Aj.l2 k x0 x1 x2 x9 x11 (x12 ++ [wrap64 (x9 + x13)]) (Int.tmod (wrap64 (x13 + 1)) x2) (wrap64 (x14 + 1))) else (none))) else (if x2 = 0 then (none) else (if x12.length < 17592186044416 then (Aj.l2 k x0 x1 x2 x9 x11 (x12 ++ [rd x0 x14]) (Int.tmod (wrap64 (x13 + 1)) x2) (wrap64 (x14 + 1))) else (none)))) else (if x12.length < 17592186044416 then (Aj.l2 k x0 x1 x2 x9 x11 (x12 ++ [rd x0 x14]) x13 (wrap64 (x14 + 1))) else (none))) else (none)) else (Aj.l1 k x0 x1 x2 x9 (wrap64 (x11 - 1)) x12 x13)
end
def Aj.f (k : Nat) (l0 : List Int) (a1 : Int) (a2 : Int) : Option (List Int × Int) := (Cr.f k l0 8).bind fun t101 => (if t101 = true then ((Ej.f a1 0 7).bind fun t102 => (if t102 = true then ((Ej.f a2 2 8).bind fun t103 => (Aj.j0 k l0 a1 a2 (!t103))) else (Aj.j0 k l0 a1 a2 true))) else (Aj.j0 k l0 a1 a2 true))
theorem Aj.mono_l : ∀ k, (∀ y0 y1 y2 y3, LeO (Aj.j0 k y0 y1 y2 y3) (Aj.j0 (k + 1) y0 y1 y2 y3)) ∧ (∀ y0 y1 y2 y3 y4 y5, LeO (Aj.l0 k y0 y1 y2 y3 y4 y5) (Aj.l0 (k + 1) y0 y1 y2 y3 y4 y5)) ∧ (∀ y0 y1 y2 y3 y4 y5, LeO (Aj.j2 k y0 y1 y2 y3 y4 y5) (Aj.j2 (k + 1) y0 y1 y2 y3 y4 y5)) ∧ (∀ y0 y1 y2 y3 y4 y5 y6, LeO (Aj.l1 k y0 y1 y2 y3 y4 y5 y6) (Aj.l1 (k + 1) y0 y1 y2 y3 y4 y5 y6)) ∧ (∀ y0 y1 y2 y3 y4 y5 y6 y7, LeO (Aj.l2 k y0 y1 y2 y3 y4 y5 y6 y7) (Aj.l2 (k + 1) y0 y1 y2 y3 y4 y5 y6 y7))
 | 0 => ⟨fun _ _ _ _ r h => by simp [Aj.j0] at h, fun _ _ _ _ _ _ r h => by simp [Aj.l0] at h, fun _ _ _ _ _ _ r h => by simp [Aj.j2] at h, fun _ _ _ _ _ _ _ r h => by simp [Aj.l1] at h, fun _ _ _ _ _ _ _ _ r h => by simp [Aj.l2] at h⟩
 | k + 1 => by
  obtain ⟨ih0, ih1, ih2, ih3, ih4⟩ := Aj.mono_l k
  refine ⟨?_, ?_, ?_, ?_, ?_⟩ <;> intros <;> (first | unfold Aj.j0 | unfold Aj.l0 | unfold Aj.j2 | unfold Aj.l1 | unfold Aj.l2) <;> repeat' first | (with_reducible first | exact ih0 _ _ _ _ | exact ih1 _ _ _ _ _ _ | exact ih2 _ _ _ _ _ _ | exact ih3 _ _ _ _ _ _ _ | exact ih4 _ _ _ _ _ _ _ _ | exact Df.mono _ _ _ | exact Cr.mono _ _ _ | exact LeO.refl _ | exact LeO.none _ | refine LeO.ite ?_ ?_ | refine LeO.bind ?_ (fun _ => ?_)) | exact ih0 _ _ _ _ | exact ih1 _ _ _ _ _ _ | exact ih2 _ _ _ _ _ _ | exact ih3 _ _ _ _ _ _ _ | exact ih4 _ _ _ _ _ _ _ _ | exact Df.mono _ _ _ | exact Cr.mono _ _ _ | exact LeO.none _ | refine LeO.ite ?_ ?_ | refine LeO.bind ?_ (fun _ => ?_)
theorem Aj.mono : ∀ a0 a1 a2 k, LeO (Aj.f k a0 a1 a2) (Aj.f (k + 1) a0 a1 a2) := by
 intro a0 a1 a2 k
 obtain ⟨ih0, ih1, ih2, ih3, ih4⟩ := Aj.mono_l k
 unfold Aj.f
 repeat' first | (with_reducible first | exact ih0 _ _ _ _ | exact ih1 _ _ _ _ _ _ | exact ih2 _ _ _ _ _ _ | exact ih3 _ _ _ _ _ _ _ | exact ih4 _ _ _ _ _ _ _ _ | exact Df.mono _ _ _ | exact Cr.mono _ _ _ | exact LeO.refl _ | exact LeO.none _ | refine LeO.ite ?_ ?_ | refine LeO.bind ?_ (fun _ => ?_)) | exact ih0 _ _ _ _ | exact ih1 _ _ _ _ _ _ | exact ih2 _ _ _ _ _ _ | exact ih3 _ _ _ _ _ _ _ | exact ih4 _ _ _ _ _ _ _ _ | exact Df.mono _ _ _ | exact Cr.mono _ _ _ | exact LeO.none _ | refine LeO.ite ?_ ?_ | refine LeO.bind ?_ (fun _ => ?_)
theorem Aj.calls (k : Nat) (A0 : Option Addr) (c0 : Nat) (l0 : List Int) (a1 : Int) (a2 : Int) (r1 : List Int) (r2 : Int) (w : World) (hr0 : Kd.C (Kd.int .i64) w A0 l0.length l0) (hc0 : l0.length ≤ c0) (h : Aj.f k l0 a1 a2 = some (r1, r2)) :
    Calls Tryz.prog 19 #[.slice A0 l0.length c0, .int .i64 a1, .int .i64 a2] w fun e w' => ∃ v0_ : Value, e = .returned (.tuple #[v0_, .int .i64 r2]) ∧ Kd.R (Kd.int .i64) 2 w' w.heap.size (fun _ => True) v0_ r1 ∧ Below w.heap.size w w' := by
 have HR0 := Aa.mk hr0
 have HC0 := Aa.mk hc0
 clear hr0 hc0
 have HB := Aa.mk (Below.refl w.heap.size w)
 have H := h
 clear h
 unfold Aj.f at H
 have HC4 := Aa.mk H
 clear H
 go_enter Tryz.func19, Tryz.ntmps19
 go_upto_region 1 with (fail)
 go_cut [28] (fun v28 wc => ∃ (kq : Nat) (x28_3 : Bool), v28 = .bool x28_3 ∧ Aa (Aj.j0 kq l0 a1 a2 x28_3 = some (r1, r2)) ∧ Aa (kq ≤ k) ∧ Aa (Below w.heap.size w wc))
 case first =>
  have H := HC4.out
  clear HC4
  obtain ⟨t101, A5, H⟩ := zO H
  try dsimp only at H
  by_cases c6 : t101 = true
  case neg =>
   replace c6 := Bool.eq_false_iff.mpr c6
   subst c6
   rw [if_neg zf] at H
   have H' := Aa.mk H
   clear H
   go_wp2_with (first | (refine gK 58 ?_; refine gL 17 Tryz.func58 #[.slice A0 l0.length c0, .int .i64 8] ?_; (with_reducible refine (Cr.calls k _ _ l0 8 false _ ?side1 HC0.out A5.out).mono ?_); (case side1 => exact zC (Kd.Bh HR0.out HB.out)); rintro e w' ⟨rfl, ⟨nd, rfl⟩⟩; refine ⟨_, rfl, ?_⟩))
   go_meet
   case rel => exact ⟨_, (true), zF, H', ⟨by first | omega | exact Nat.le_refl _⟩, ⟨zB⟩⟩
  subst c6
  rw [if_pos rfl] at H
  obtain ⟨t102, A7, H⟩ := zO H
  try dsimp only at H
  by_cases c8 : t102 = true
  ·
   subst c8
   rw [if_pos rfl] at H
   obtain ⟨t103, A9, H⟩ := zO H
   try dsimp only at H
   have H' := Aa.mk H
   clear H
   go_wp2_with (first | (refine gK 58 ?_; refine gL 17 Tryz.func58 #[.slice A0 l0.length c0, .int .i64 8] ?_; (with_reducible refine (Cr.calls k _ _ l0 8 true _ ?side1 HC0.out A5.out).mono ?_); (case side1 => exact zC (Kd.Bh HR0.out HB.out)); rintro e w' ⟨rfl, ⟨nd, rfl⟩⟩; refine ⟨_, rfl, ?_⟩) | (go_at_call 36; (with_reducible refine (Ej.calls a1 0 7 true _ A7.out).mono ?_); rintro e w' ⟨rfl, ⟨nd, rfl⟩⟩) | (go_at_call 36; (with_reducible refine (Ej.calls a2 2 8 t103 _ A9.out).mono ?_); rintro e w' ⟨rfl, ⟨nd, rfl⟩⟩))
   go_meet
   case rel => exact ⟨_, (!t103), zF, H', ⟨by first | omega | exact Nat.le_refl _⟩, ⟨zB⟩⟩
  replace c8 := Bool.eq_false_iff.mpr c8
  subst c8
  rw [if_neg zf] at H
  have H' := Aa.mk H
  clear H
  go_wp2_with (first | (refine gK 58 ?_; refine gL 17 Tryz.func58 #[.slice A0 l0.length c0, .int .i64 8] ?_; (with_reducible refine (Cr.calls k _ _ l0 8 true _ ?side1 HC0.out A5.out).mono ?_); (case side1 => exact zC (Kd.Bh HR0.out HB.out)); rintro e w' ⟨rfl, ⟨nd, rfl⟩⟩; refine ⟨_, rfl, ?_⟩) | (go_at_call 36; (with_reducible refine (Ej.calls a1 0 7 false _ A7.out).mono ?_); rintro e w' ⟨rfl, ⟨nd, rfl⟩⟩))
  go_meet
  case rel => exact ⟨_, (true), zF, H', ⟨by first | omega | exact Nat.le_refl _⟩, ⟨zB⟩⟩
 clear HC4
 obtain ⟨kq, x28_3, rfl, HA, HJ3, HB⟩ := hcut
 cases kq with
 | zero => exact absurd HA.out (by simp [Aj.j0])
 | succ kj3 =>
  have H := HA.out
  clear HA
  simp only [Aj.j0] at H
  by_cases c10 : x28_3 = true
  ·
   subst c10
   rw [if_pos rfl] at H
   simp only [Option.some.injEq, Prod.mk.injEq] at H
   obtain ⟨rfl, rfl⟩ := H
   go_wp2
   go_ret2
   exact ⟨_, zE, zN, zB⟩
  replace c10 := Bool.eq_false_iff.mpr c10
  subst c10
  rw [if_neg zf] at H
  have H' := Aa.mk H
  clear H
  go_wp2
  go_loopg [8, 9, 10] kj3 (fun kq v8 v9 v10 w' => ∃ (x8_2 : Int) (x9_2 : Int) (x10_2 : Int), v8 = .int .i64 x8_2 ∧ v9 = .int .i64 x9_2 ∧ v10 = .int .i64 x10_2 ∧ Aa (Aj.l0 kq l0 a1 a2 x8_2 x9_2 x10_2 = some (r1, r2)) ∧ Aa (kq ≤ kj3) ∧ Aa (Below w.heap.size w w'))
  case atStart => exact ⟨(0), (a1), (0), zF, zF, zF, H', ⟨Nat.le_refl _⟩, ⟨zB⟩⟩
  clear H'
  try clear c10
  obtain ⟨x8_2, x9_2, x10_2, rfl, rfl, rfl, HA, HK2, HB⟩ := hrel
  cases gk with
  | zero => exact absurd HA.out (by simp [Aj.l0])
  | succ k2 =>
   have H := HA.out
   clear HA
   simp only [Aj.l0] at H
   by_cases c11 : x10_2 < (l0.length : Int)
   ·
    rw [if_pos c11] at H
    have c11b0 := decide_eq_true c11
    clear c11
    by_cases c12 : 0 ≤ x10_2
    case neg => rw [if_neg c12] at H; exact absurd H (by simp)
    rw [if_pos c12] at H
    have c12b0 := decide_eq_true c12
    clear c12
    by_cases c13 : (rd l0 x10_2) = a1
    ·
     rw [if_pos c13] at H
     have c13b0 : ((rd l0 x10_2) == a1) = true := beq_iff_eq.mpr c13
     have c13b1 : ((rd l0 x10_2) != a1) = false := bne_eq_false_iff_eq.mpr c13
     clear c13
     obtain ⟨ji14, hji14⟩ : ∃ j_ : Int, (mx x9_2 (rd l0 x10_2)) = j_ := ⟨_, rfl⟩
     replace H : (Aj.l0 k2 l0 a1 a2 (wrap64 (x8_2 + 1)) ji14 (wrap64 (x10_2 + 1))) = some (r1, r2) := by first | (rw [hji14] at H; exact H) | (simp only [hji14] at H ⊢; exact H)
     have hji14_ : (if x9_2 < (rd l0 x10_2) then (rd l0 x10_2) else x9_2) = ji14 := hji14
     have H' := Aa.mk H
     clear H
     have p104 : 0 ≤ (x10_2 : Int) := zD
     have q104 : x10_2 < (l0.length : Int) := zD
     obtain ⟨ad104, e104, hx104_0⟩ := Kd.Cv HR0.out x10_2 p104 q104
     cases e104
     replace hx104_0 := (HB.out.cell (World.block_lt_of_cell? w _ hx104_0)).trans hx104_0
     replace p104 := eq_true p104
     replace q104 := eq_true q104
     have p105 : 0 ≤ (x10_2 : Int) := zD
     have q105 : x10_2 < (l0.length : Int) := zD
     obtain ⟨ad105, e105, hx105_0⟩ := Kd.Cv HR0.out x10_2 p105 q105
     obtain rfl : ad104 = ad105 := (by injection e105)
     replace hx105_0 := (HB.out.cell (World.block_lt_of_cell? w _ hx105_0)).trans hx105_0
     replace p105 := eq_true p105
     replace q105 := eq_true q105
     go_wp2
     go_roundg k2
     case measure => have := HJ3.out; have := HK2.out; omega
     case rel => exact ⟨(wrap64 (x8_2 + 1)), (ji14), (wrap64 (x10_2 + 1)), zF, (by first | rfl | (simp; done) | (simp only [← hji14] <;> (first | rfl | simp)) | (simp [*]; done)), zF, H', ⟨by have := HJ3.out; have := HK2.out; omega⟩, ⟨zB⟩⟩
    rw [if_neg c13] at H
    have c13b0 : ((rd l0 x10_2) == a1) = false := beq_eq_false_iff_ne.mpr c13
    have c13b1 : ((rd l0 x10_2) != a1) = true := bne_iff_ne.mpr c13
    obtain ⟨ji15, hji15⟩ : ∃ j_ : Int, (mx x9_2 (rd l0 x10_2)) = j_ := ⟨_, rfl⟩
    replace H : (Aj.l0 k2 l0 a1 a2 x8_2 ji15 (wrap64 (x10_2 + 1))) = some (r1, r2) := by first | (rw [hji15] at H; exact H) | (simp only [hji15] at H ⊢; exact H)
    have hji15_ : (if x9_2 < (rd l0 x10_2) then (rd l0 x10_2) else x9_2) = ji15 := hji15
    have H' := Aa.mk H
    clear H
    have p104 : 0 ≤ (x10_2 : Int) := zD
    have q104 : x10_2 < (l0.length : Int) := zD
    obtain ⟨ad104, e104, hx104_0⟩ := Kd.Cv HR0.out x10_2 p104 q104
    cases e104
    replace hx104_0 := (HB.out.cell (World.block_lt_of_cell? w _ hx104_0)).trans hx104_0
    replace p104 := eq_true p104
    replace q104 := eq_true q104
    have p106 : 0 ≤ (x10_2 : Int) := zD
    have q106 : x10_2 < (l0.length : Int) := zD
    obtain ⟨ad106, e106, hx106_0⟩ := Kd.Cv HR0.out x10_2 p106 q106
    obtain rfl : ad104 = ad106 := (by injection e106)
    replace hx106_0 := (HB.out.cell (World.block_lt_of_cell? w _ hx106_0)).trans hx106_0
    replace p106 := eq_true p106
    replace q106 := eq_true q106
    go_wp2
    go_roundg k2
    case measure => have := HJ3.out; have := HK2.out; omega
    case rel => exact ⟨(x8_2), (ji15), (wrap64 (x10_2 + 1)), zF, (by first | rfl | (simp; done) | (simp only [← hji15] <;> (first | rfl | simp)) | (simp [*]; done)), zF, H', ⟨by have := HJ3.out; have := HK2.out; omega⟩, ⟨zB⟩⟩
   rw [if_neg c11] at H
   have c11b0 := decide_eq_false c11
   clear c11
   by_cases c16 : x8_2 = 0
   ·
    rw [if_pos c16] at H
    have c16b0 : (x8_2 == 0) = true := beq_iff_eq.mpr c16
    have c16b1 : (x8_2 != 0) = false := bne_eq_false_iff_eq.mpr c16
    clear c16
    simp only [Option.some.injEq, Prod.mk.injEq] at H
    obtain ⟨rfl, rfl⟩ := H
    go_wp2
    go_ret2
    exact ⟨_, zE, zN, zB⟩
   rw [if_neg c16] at H
   have c16b0 : (x8_2 == 0) = false := beq_eq_false_iff_ne.mpr c16
   have c16b1 : (x8_2 != 0) = true := bne_iff_ne.mpr c16
   obtain ⟨t107, A17, H⟩ := zO H
   try dsimp only at H
   by_cases c18 : t107 = 0
   ·
    rw [if_pos c18] at H
    exact absurd H (by simp)
   rw [if_neg c18] at H
   have c18b0 : (t107 == 0) = false := beq_eq_false_iff_ne.mpr c18
   have c18b1 : (t107 != 0) = true := bne_iff_ne.mpr c18
   have HC19 := Aa.mk H
   clear H
   go_upto_region 13 with (first | (refine gK 65 ?_; refine gL 55 Tryz.func65 #[.int .i64 x8_2, .int .i64 a2] ?_; (with_reducible refine (Df.calls k2 x8_2 a2 t107 _ A17.out).mono ?_); rintro e w' ⟨rfl, ⟨nd, rfl⟩⟩; refine ⟨_, rfl, ?_⟩))
   (try simp only [Act.put, List.setIfInBounds_toArray, List.set_cons_zero, List.set_cons_succ])
   go_cut [68] (fun v68 wc => ∃ (kq : Nat) (x68_18 : Bool), v68 = .bool x68_18 ∧ Aa (Aj.j2 kq l0 a1 a2 x9_2 (wrap64 (Int.tdiv a2 t107)) x68_18 = some (r1, r2)) ∧ Aa (kq ≤ k2) ∧ Aa (Below w.heap.size w wc))
   case first =>
    have H := HC19.out
    clear HC19
    by_cases c20 : (wrap64 ((wrap64 (x9_2 + a2)) - 1)) ≥ 8
    ·
     rw [if_pos c20] at H
     have c20b0 := decide_eq_true c20
     clear c20
     (first | rw [c20b0] | (simp only [Ec, En]; rw [c20b0]) | skip)
     have H' := Aa.mk H
     clear H
     go_wp2
     go_meet
     case rel => exact ⟨_, (true), zF, H', ⟨by have := HJ3.out; have := HK2.out; first | omega | exact Nat.le_refl _⟩, ⟨zB⟩⟩
    rw [if_neg c20] at H
    have c20b0 := decide_eq_false c20
    clear c20
    (first | rw [c20b0] | (simp only [Ec, En]; rw [c20b0]) | skip)
    have H' := Aa.mk H
    clear H
    go_wp2
    go_meet
    case rel => exact ⟨_, (decide ((wrap64 ((wrap64 (Int.tdiv a2 t107)) * (l0.length : Int))) > 120)), zF, H', ⟨by have := HJ3.out; have := HK2.out; first | omega | exact Nat.le_refl _⟩, ⟨zB⟩⟩
   clear HC19
   try clear c10
   try clear c11
   try clear c11b0
   try clear c16
   try clear c16b0
   try clear c16b1
   try clear c18
   try clear c18b0
   try clear c18b1
   obtain ⟨kq, x68_18, rfl, HA, HJ18, HB⟩ := hcut
   cases kq with
   | zero => exact absurd HA.out (by simp [Aj.j2])
   | succ kj18 =>
    have H := HA.out
    clear HA
    simp only [Aj.j2] at H
    by_cases c21 : x68_18 = true
    ·
     subst c21
     rw [if_pos rfl] at H
     simp only [Option.some.injEq, Prod.mk.injEq] at H
     obtain ⟨rfl, rfl⟩ := H
     go_wp2
     go_ret2
     exact ⟨_, zE, zN, zB⟩
    replace c21 := Bool.eq_false_iff.mpr c21
    subst c21
    rw [if_neg zf] at H
    obtain ⟨y108, hy108⟩ : ∃ y_ : List Int, y_ = (([] : List Int)) := ⟨_, rfl⟩
    replace H : (Aj.l1 kj18 l0 a1 a2 x9_2 (wrap64 (Int.tdiv a2 t107)) y108 0) = some (r1, r2) := zH hy108
    have Ny108 := Aa.mk hy108
    clear hy108
    have H' := Aa.mk H
    clear H
    go_wp2_with (first | ((with_reducible refine Ay (N := 69) rfl ?_); (try (refine Ed (by rfl) ?_; dsimp only)); refine Kd.Kv (Kd.int .i64) _ 2 ?hg (N := 69) ?hd (xs := ([] : List Int)) (inner := []) (ok := fun _ => True) (okp := fun _ => True) ?hr ?hp (fun _ hk => hk) trivial (Below.refl _ _) (Nat.le_refl _) (by simp) ?_; (case hd => rfl); (case hg => rfl); (case hr => first | (go_simp; done) | (go_simp; rfl)); (case hp => exact (Dk.none _ _)); intro v109 w22 ho23 hb hg_ hnew_; clear hg_ hnew_; (first | rw [← Ny108.out] at ho23 | (simp only [Int.reduceToNat] at ho23; rw [← Ny108.out] at ho23)); have n_ := y2 (Kd.Bk ho23 (An (zB))) (Ab (zB) hb); clear HB; obtain ⟨HO110, HB⟩ := n_; clear hb ho23))
    go_loopg [11, 12, 13] kj18 (fun kq v11 v12 v13 w' => ∃ (x11_4 : Int) (x12_4 : List Int) (x13_4 : Int), v11 = .int .i64 x11_4 ∧ v13 = .int .i64 x13_4 ∧ Aa (Aj.l1 kq l0 a1 a2 x9_2 x11_4 x12_4 x13_4 = some (r1, r2)) ∧ Aa (kq ≤ kj18) ∧ Aa (Kd.R (Kd.int .i64) 2 w' w.heap.size (fun _ => True) v12 x12_4) ∧ Aa (Below w.heap.size w w'))
    case atStart => exact ⟨((wrap64 (Int.tdiv a2 t107))), (y108), (0), zF, zF, H', ⟨Nat.le_refl _⟩, ⟨zR HO110.out⟩, ⟨zB⟩⟩
    clear H'
    try clear c10
    try clear c11
    try clear c11b0
    try clear c16
    try clear c16b0
    try clear c16b1
    try clear c18
    try clear c18b0
    try clear c18b1
    try clear c21
    obtain ⟨x11_4, x12_4, x13_4, rfl, rfl, HA, HK4, HO_12, HB⟩ := hrel
    cases gk with
    | zero => exact absurd HA.out (by simp [Aj.l1])
    | succ k4 =>
     have H := HA.out
     clear HA
     simp only [Aj.l1] at H
     by_cases c24 : x11_4 > 0
     case neg =>
      rw [if_neg c24] at H
      have c24b0 := decide_eq_false c24
      clear c24
      simp only [Option.some.injEq, Prod.mk.injEq] at H
      obtain ⟨rfl, rfl⟩ := H
      go_wp2
      go_ret2
      exact ⟨_, zE, zR HO_12.out, zB⟩
     rw [if_pos c24] at H
     have c24b0 := decide_eq_true c24
     clear c24
     have H' := Aa.mk H
     clear H
     go_wp2
     go_loopg [12, 13, 14] k4 (fun kq v12 v13 v14 w' => ∃ (x12_5 : List Int) (x13_5 : Int) (x14_5 : Int), v13 = .int .i64 x13_5 ∧ v14 = .int .i64 x14_5 ∧ Aa (Aj.l2 kq l0 a1 a2 x9_2 x11_4 x12_5 x13_5 x14_5 = some (r1, r2)) ∧ Aa (kq ≤ k4) ∧ Aa (Kd.R (Kd.int .i64) 2 w' w.heap.size (fun _ => True) v12 x12_5) ∧ Aa (Below w.heap.size w w'))
     case atStart => exact ⟨(x12_4), (x13_4), (0), zF, zF, H', ⟨Nat.le_refl _⟩, ⟨zR HO_12.out⟩, ⟨zB⟩⟩
     clear H'
     try clear c10
     try clear c11
     try clear c11b0
     try clear c16
     try clear c16b0
     try clear c16b1
     try clear c18
     try clear c18b0
     try clear c18b1
     try clear c21
     try clear c24
     try clear c24b0
     obtain ⟨x12_5, x13_5, x14_5, rfl, rfl, HA, HK5, HO_12, HB⟩ := hrel
     cases gk with
     | zero => exact absurd HA.out (by simp [Aj.l2])
     | succ k5 =>
      have H := HA.out
      clear HA
      simp only [Aj.l2] at H
      by_cases c25 : x14_5 < (l0.length : Int)
      case neg =>
       rw [if_neg c25] at H
       have c25b0 := decide_eq_false c25
       clear c25
       have H' := Aa.mk H
       clear H
       go_wp2
       go_roundg k5
       case measure => have := HJ3.out; have := HK2.out; have := HJ18.out; have := HK4.out; have := HK5.out; omega
       case rel => exact ⟨(wrap64 (x11_4 - 1)), (x12_5), (x13_5), zF, zF, H', ⟨by have := HJ3.out; have := HK2.out; have := HJ18.out; have := HK4.out; have := HK5.out; omega⟩, ⟨zR HO_12.out⟩, ⟨zB⟩⟩
      rw [if_pos c25] at H
      have c25b0 := decide_eq_true c25
      clear c25
      by_cases c26 : 0 ≤ x14_5
      case neg => rw [if_neg c26] at H; exact absurd H (by simp)
      rw [if_pos c26] at H
      have c26b0 := decide_eq_true c26
      clear c26
      by_cases c27 : (rd l0 x14_5) = a1
      case neg =>
       rw [if_neg c27] at H
       have c27b0 : ((rd l0 x14_5) == a1) = false := beq_eq_false_iff_ne.mpr c27
       have c27b1 : ((rd l0 x14_5) != a1) = true := bne_iff_ne.mpr c27
       by_cases c35 : x12_5.length < 17592186044416
       case neg => rw [if_neg c35] at H; exact absurd H (by simp)
       rw [if_pos c35] at H
       have LMc35 := Aa.mk c35
       clear c35
       obtain ⟨y118, hy118⟩ : ∃ y_ : List Int, y_ = (x12_5 ++ [rd l0 x14_5]) := ⟨_, rfl⟩
       replace H : (Aj.l2 k5 l0 a1 a2 x9_2 x11_4 y118 x13_5 (wrap64 (x14_5 + 1))) = some (r1, r2) := zH hy118
       have Ny118 := Aa.mk hy118
       clear hy118
       have H' := Aa.mk H
       clear H
       have p111 : 0 ≤ (x14_5 : Int) := zD
       have q111 : x14_5 < (l0.length : Int) := zD
       obtain ⟨ad111, e111, hx111_0⟩ := Kd.Cv HR0.out x14_5 p111 q111
       cases e111
       replace hx111_0 := (HB.out.cell (World.block_lt_of_cell? w _ hx111_0)).trans hx111_0
       replace p111 := eq_true p111
       replace q111 := eq_true q111
       go_wp2_with (first | ((with_reducible refine Dp (b := .append) (xs := #[.tmp 96, .tmp 98]) rfl ?_); (try (refine Ed (by rfl) ?_; dsimp only)); at_builtin; refine Kd.Gk (Kd.int .i64) (w0 := w) w.heap.size rfl (.tmp 96) (.tmp 98) 24 2 (.int .i64 0) 8 rfl Tryz.underlying24 Gb rfl (by decide) (by omega) u12 x12_5 (rd l0 x14_5) [.int .i64 (rd l0 x14_5)] (fun _ => True) (fun _ => False) rfl rfl ?aP (fun _ hk => hk.elim) ?aF ?aO ?aB ?aS ?aL ?_; (case aP => exact rfl); (case aB => exact (zB)); (case aF => exact (fun _ _ => trivial)); (case aO => exact (zR HO_12.out)); (case aS => exact (An (zB))); (case aL => have := LMc35.out; omega); intro v119 w36 ho hb hg hat; rw [← Ny118.out] at ho; have n_ := y2 (hb) (ho); clear HB HO_12; obtain ⟨HB, HO120⟩ := n_; clear ho hb hg hat))
       go_roundg k5
       case measure => have := HJ3.out; have := HK2.out; have := HJ18.out; have := HK4.out; have := HK5.out; omega
       case rel => exact ⟨(y118), (x13_5), (wrap64 (x14_5 + 1)), zF, zF, H', ⟨by have := HJ3.out; have := HK2.out; have := HJ18.out; have := HK4.out; have := HK5.out; omega⟩, ⟨zR HO120.out⟩, ⟨zB⟩⟩
      rw [if_pos c27] at H
      have c27b0 : ((rd l0 x14_5) == a1) = true := beq_iff_eq.mpr c27
      have c27b1 : ((rd l0 x14_5) != a1) = false := bne_eq_false_iff_eq.mpr c27
      clear c27
      by_cases c28 : x13_5 > 0
      ·
       rw [if_pos c28] at H
       have c28b0 := decide_eq_true c28
       clear c28
       by_cases c29 : a2 = 0
       ·
        rw [if_pos c29] at H
        exact absurd H (by simp)
       rw [if_neg c29] at H
       have c29b0 : (a2 == 0) = false := beq_eq_false_iff_ne.mpr c29
       have c29b1 : (a2 != 0) = true := bne_iff_ne.mpr c29
       by_cases c30 : x12_5.length < 17592186044416
       case neg => rw [if_neg c30] at H; exact absurd H (by simp)
       rw [if_pos c30] at H
       have LMc30 := Aa.mk c30
       clear c30
       obtain ⟨y112, hy112⟩ : ∃ y_ : List Int, y_ = (x12_5 ++ [wrap64 (x9_2 + x13_5)]) := ⟨_, rfl⟩
       replace H : (Aj.l2 k5 l0 a1 a2 x9_2 x11_4 y112 (Int.tmod (wrap64 (x13_5 + 1)) a2) (wrap64 (x14_5 + 1))) = some (r1, r2) := zH hy112
       have Ny112 := Aa.mk hy112
       clear hy112
       have H' := Aa.mk H
       clear H
       have p111 : 0 ≤ (x14_5 : Int) := zD
       have q111 : x14_5 < (l0.length : Int) := zD
       obtain ⟨ad111, e111, hx111_0⟩ := Kd.Cv HR0.out x14_5 p111 q111
       cases e111
       replace hx111_0 := (HB.out.cell (World.block_lt_of_cell? w _ hx111_0)).trans hx111_0
       replace p111 := eq_true p111
       replace q111 := eq_true q111
       go_wp2_with (first | ((with_reducible refine Dp (b := .append) (xs := #[.tmp 96, .tmp 98]) rfl ?_); (try (refine Ed (by rfl) ?_; dsimp only)); at_builtin; refine Kd.Gk (Kd.int .i64) (w0 := w) w.heap.size rfl (.tmp 96) (.tmp 98) 24 2 (.int .i64 0) 8 rfl Tryz.underlying24 Gb rfl (by decide) (by omega) u12 x12_5 (wrap64 (x9_2 + x13_5)) [.int .i64 (wrap64 (x9_2 + x13_5))] (fun _ => True) (fun _ => False) rfl rfl ?aP (fun _ hk => hk.elim) ?aF ?aO ?aB ?aS ?aL ?_; (case aP => exact rfl); (case aB => exact (zB)); (case aF => exact (fun _ _ => trivial)); (case aO => exact (zR HO_12.out)); (case aS => exact (An (zB))); (case aL => have := LMc30.out; omega); intro v113 w31 ho hb hg hat; rw [← Ny112.out] at ho; have n_ := y2 (hb) (ho); clear HB HO_12; obtain ⟨HB, HO114⟩ := n_; clear ho hb hg hat))
       go_roundg k5
       case measure => have := HJ3.out; have := HK2.out; have := HJ18.out; have := HK4.out; have := HK5.out; omega
       case rel => exact ⟨(y112), (Int.tmod (wrap64 (x13_5 + 1)) a2), (wrap64 (x14_5 + 1)), zF, zF, H', ⟨by have := HJ3.out; have := HK2.out; have := HJ18.out; have := HK4.out; have := HK5.out; omega⟩, ⟨zR HO114.out⟩, ⟨zB⟩⟩
      rw [if_neg c28] at H
      have c28b0 := decide_eq_false c28
      clear c28
      by_cases c32 : a2 = 0
      ·
       rw [if_pos c32] at H
       exact absurd H (by simp)
      rw [if_neg c32] at H
      have c32b0 : (a2 == 0) = false := beq_eq_false_iff_ne.mpr c32
      have c32b1 : (a2 != 0) = true := bne_iff_ne.mpr c32
      by_cases c33 : x12_5.length < 17592186044416
      case neg => rw [if_neg c33] at H; exact absurd H (by simp)
      rw [if_pos c33] at H
      have LMc33 := Aa.mk c33
      clear c33
      obtain ⟨y115, hy115⟩ : ∃ y_ : List Int, y_ = (x12_5 ++ [rd l0 x14_5]) := ⟨_, rfl⟩
      replace H : (Aj.l2 k5 l0 a1 a2 x9_2 x11_4 y115 (Int.tmod (wrap64 (x13_5 + 1)) a2) (wrap64 (x14_5 + 1))) = some (r1, r2) := zH hy115
      have Ny115 := Aa.mk hy115
      clear hy115
      have H' := Aa.mk H
      clear H
      have p111 : 0 ≤ (x14_5 : Int) := zD
      have q111 : x14_5 < (l0.length : Int) := zD
      obtain ⟨ad111, e111, hx111_0⟩ := Kd.Cv HR0.out x14_5 p111 q111
      cases e111
      replace hx111_0 := (HB.out.cell (World.block_lt_of_cell? w _ hx111_0)).trans hx111_0
      replace p111 := eq_true p111
      replace q111 := eq_true q111
      go_wp2_with (first | ((with_reducible refine Dp (b := .append) (xs := #[.tmp 96, .tmp 98]) rfl ?_); (try (refine Ed (by rfl) ?_; dsimp only)); at_builtin; refine Kd.Gk (Kd.int .i64) (w0 := w) w.heap.size rfl (.tmp 96) (.tmp 98) 24 2 (.int .i64 0) 8 rfl Tryz.underlying24 Gb rfl (by decide) (by omega) u12 x12_5 (rd l0 x14_5) [.int .i64 (rd l0 x14_5)] (fun _ => True) (fun _ => False) rfl rfl ?aP (fun _ hk => hk.elim) ?aF ?aO ?aB ?aS ?aL ?_; (case aP => exact rfl); (case aB => exact (zB)); (case aF => exact (fun _ _ => trivial)); (case aO => exact (zR HO_12.out)); (case aS => exact (An (zB))); (case aL => have := LMc33.out; omega); intro v116 w34 ho hb hg hat; rw [← Ny115.out] at ho; have n_ := y2 (hb) (ho); clear HB HO_12; obtain ⟨HB, HO117⟩ := n_; clear ho hb hg hat))
      go_roundg k5
      case measure => have := HJ3.out; have := HK2.out; have := HJ18.out; have := HK4.out; have := HK5.out; omega
      case rel => exact ⟨(y115), (Int.tmod (wrap64 (x13_5 + 1)) a2), (wrap64 (x14_5 + 1)), zF, zF, H', ⟨by have := HJ3.out; have := HK2.out; have := HJ18.out; have := HK4.out; have := HK5.out; omega⟩, ⟨zR HO117.out⟩, ⟨zB⟩⟩
def Ft.f (k : Nat) (s0_0 : List Int) (s0_1 : Int) (s0_2 : Int) : Option (List Int × Int × Int) := (Du.f k s0_0 s0_1 s0_2).bind fun bt102 => ((Bm.f k s0_0 bt102.2.1 bt102.2.2 bt102.1).bind fun bt107 => (some (bt107.1, bt107.2.1, bt107.2.2)))
theorem Ft.mono : ∀ a0 a1 a2 k, LeO (Ft.f k a0 a1 a2) (Ft.f (k + 1) a0 a1 a2) := by
 intro a0 a1 a2 k
 unfold Ft.f
 repeat' first | (with_reducible first | exact Bm.mono _ _ _ _ _ | exact Du.mono _ _ _ _ | exact LeO.refl _ | exact LeO.none _ | refine LeO.ite ?_ ?_ | refine LeO.bind ?_ (fun _ => ?_)) | exact Bm.mono _ _ _ _ _ | exact Du.mono _ _ _ _ | exact LeO.none _ | refine LeO.ite ?_ ?_ | refine LeO.bind ?_ (fun _ => ?_)
theorem Ft.calls (k : Nat) (g : Nat) (s0_0 : List Int) (s0_1 : Int) (s0_2 : Int) (r1 : List Int) (r2 : Int) (r3 : Int) (w0 w : World) (hI : Af w0 w g s0_0 s0_1 s0_2) (hB : Below w0.heap.size w0 w) (h : Ft.f k s0_0 s0_1 s0_2 = some (r1, r2, r3)) :
    Calls Tryz.prog 66 #[.pointer (some ⟨g, 0, none⟩)] w fun e w' => ∃ v0_ : Value, e = .returned (.agg #[v0_]) ∧ Kd.R (Kd.int .i64) 2 w' w.heap.size (fun _ => True) v0_ r1 ∧ Af w0 w' g s0_0 r2 r3 ∧ Below w0.heap.size w0 w' ∧ Av w w' g none := by
 have hu26 := Tryz.underlying26
 have HI0 := Aa.mk hI
 have HK := Aa.mk (Av.refl w g none)
 have HL := Aa.mk hB.size
 clear hI
 have HW0 := Aa.mk hB.size
 have HB := Aa.mk hB
 clear hB
 have H := h
 clear h
 unfold Ft.f at H
 obtain ⟨⟨t102, t105, t106⟩, A2, H⟩ := zO H
 try dsimp only at H
 obtain ⟨⟨t107, t110, t111⟩, A3, H⟩ := zO H
 try dsimp only at H
 simp only [Option.some.injEq, Prod.mk.injEq] at H
 obtain ⟨rfl, rfl, rfl⟩ := H
 go_enter Tryz.func66, Tryz.ntmps66
 go_wp2_with (first | ((with_reducible refine Ay (N := 2) rfl ?_); refine Be zr (N := 2) zr (cs := #[.slice none 0 0]) (t := 26) zg ?_; intro gb101 hg w4 hbox hb; have n_ := y8 (Af.below (zI) hb) (Av.trans (zK) (Av.of_below hb g none) (.inl rfl)) (Ab (zB) hb) (hbox) ((by rw [hg]; exact (Di (w := w) (g := g) (row := none) (zK)) : w.heap.size ≤ gb101)) ((Nat.le_trans HW0.out (by rw [hg]; exact (Di (w := w) (g := g) (row := none) (zK)) : w.heap.size ≤ gb101) : w0.heap.size ≤ gb101)) ((by rw [hg]; exact Nat.ne_of_lt (Af.lt (show Af w0 _ g s0_0 s0_1 s0_2 from zI)) : g ≠ gb101)) ((by rw [hg]; exact Nat.ne_of_gt (Af.lt (show Af w0 _ g s0_0 s0_1 s0_2 from zI)) : gb101 ≠ g)); clear HI0 HK HB; obtain ⟨HI0, HK, HB, BK101, GW101, GE101, NB0_101, NB101_0⟩ := n_; clear hb hbox hg) | (refine gK 26 ?_; refine gL 5 Tryz.func26 #[.pointer (some ⟨g, 0, none⟩)] ?_; (with_reducible refine (Du.calls k g s0_0 s0_1 s0_2 t102 t105 t106 w0 _ ?side1 ?side2 A2.out).mono ?_); (case side1 => exact zI); (case side2 => exact zB); rintro e w5 ⟨v103, rfl, ho0, hi, hb, hk⟩; refine ⟨_, rfl, ?_⟩; have n_ := y5 (zW BK101.out hk NB101_0.out) (Kd.Bk ho0 (Di (w := w) (g := g) (row := none) (zK))) (Av.trans (zK) hk (.inl rfl)) (hb) (hi); clear BK101 HK HB HI0; obtain ⟨BK101, HO104, HK, HB, HI0⟩ := n_; (try clear ho0 hi hb hk); obtain ⟨Ao6, co6, eo6⟩ := Kd.Bb HO104.out; subst eo6) | (refine gK 30 ?_; refine gL 6 Tryz.func30 #[.pointer (some ⟨g, 0, none⟩), .agg #[.slice Ao6 t102.length co6]] ?_; (with_reducible refine (Bm.calls k g s0_0 t105 t106 (fun k_ => some k_ = (.slice Ao6 t102.length co6 : Value).ownBlock) (.slice Ao6 t102.length co6) t102 t107 t110 t111 w0 _ ?side1 ?side2 ?side3 A3.out).mono ?_); (case side1 => exact zI); (case side2 => exact zB); (case side3 => exact Kd.Bk (Kd.Ml rfl HO104.out) HL.out); rintro e w7 ⟨v108, rfl, ho0, hi, hb, hkp⟩; refine ⟨_, rfl, ?_⟩; have n_ := y5 (hi) (Eu (zG BK101.out) hkp (fun hs_ => Or.elim hs_ (fun hs_ => (fun e_ => (Kd.Em HO104.out BK101.out (by decide)) e_) hs_) (fun e_ => NB101_0.out e_))) (Kd.Ai (ok' := fun k_ => True) (Kd.q2A (d := (Kd.int .i64)) (b := w0.heap.size) (b' := w.heap.size) (fun _ _ _ _ h_ => h_) ho0 (fun k_ e_ => Or.elim (ho0.1 k_ e_) (fun hs_ => (fun e_ => Kd.Bs HO104.out k_ e_.symm) hs_) (fun hn_ => Nat.le_trans (Di (w := w) (g := g) (row := none) (zK)) hn_))) (fun k_ hk_ => trivial)) (Dn.keepG (zK) hkp (fun k_ hs_ => Or.elim hs_ (fun hs_ => (fun e_ => .inr (Kd.Bs HO104.out k_ e_.symm)) hs_) (fun e_ => .inl e_))) (hb); clear HI0 BK101 HK HB HO104; obtain ⟨HI0, BK101, HO109, HK, HB⟩ := n_; (try clear hb); (try clear hkp); (try clear ho0); obtain ⟨Ao8, co8, eo8⟩ := Kd.Bb HO109.out; subst eo8; have hnb9 := NB101_0.out; have hnc9 := NB0_101.out; obtain ⟨hcz10_0, hfz10_0⟩ := zw BK101.out))
 refine bodyPost_ret (results_cell_row rfl _ _ gb101 26 #[.slice Ao8 t107.length co8] (0, 0) _ rfl (by (with_reducible repeat (first | refine Am ?_ _ | refine Ag ?_ | refine Ak ?_ _)); refine Cl (cs := #[.slice none 0 0]) ?_ 0 _ rfl; (with_reducible repeat (first | refine Am ?_ _ | refine Ag ?_ | refine Ak ?_ _)); exact BK101.out) Tryz.underlying26 rfl zk) rfl ?_
 exact ⟨_, zE, by refine zR ?_; exact Kd.Ai (Kd.Dv (p := ⟨gb101, 0, none⟩) (Kd.Cj HO109.out BK101.out (by decide)) (fun _ hk => hk.2) (.slice Ao8 t107.length co8)) (fun _ hk => trivial), zI, zB, zK⟩
def Dq.f (k : Nat) (l0 : List Int) : Option (List Int) := (Bj.f k l0).bind fun bt102 => ((Ft.f k bt102.1 bt102.2.1 bt102.2.2).bind fun bt106 => (some bt106.1))
theorem Dq.mono : ∀ a0 k, LeO (Dq.f k a0) (Dq.f (k + 1) a0) := by
 intro a0 k
 unfold Dq.f
 repeat' first | (with_reducible first | exact Bj.mono _ _ | exact Ft.mono _ _ _ _ | exact LeO.refl _ | exact LeO.none _ | refine LeO.ite ?_ ?_ | refine LeO.bind ?_ (fun _ => ?_)) | exact Bj.mono _ _ | exact Ft.mono _ _ _ _ | exact LeO.none _ | refine LeO.ite ?_ ?_ | refine LeO.bind ?_ (fun _ => ?_)
theorem Dq.calls (k : Nat) (A0 : Option Addr) (c0 : Nat) (l0 : List Int) (r : List Int) (w : World) (hr0 : Kd.C (Kd.int .u8) w A0 l0.length l0) (hc0 : l0.length ≤ c0) (h : Dq.f k l0 = some r) :
    Calls Tryz.prog 20 #[.slice A0 l0.length c0] w fun e w' => ∃ v0_ : Value, e = .returned (.agg #[v0_]) ∧ Kd.R (Kd.int .i64) 2 w' w.heap.size (fun _ => True) v0_ r ∧ Below w.heap.size w w' := by
 have hu26 := Tryz.underlying26
 have HR0 := Aa.mk hr0
 have HC0 := Aa.mk hc0
 clear hr0 hc0
 have HB := Aa.mk (Below.refl w.heap.size w)
 have H := h
 clear h
 unfold Dq.f at H
 obtain ⟨⟨t102, t103, t104⟩, A2, H⟩ := zO H
 try dsimp only at H
 obtain ⟨⟨t106, t109, t110⟩, A3, H⟩ := zO H
 try dsimp only at H
 obtain rfl := Option.some.inj H
 go_enter Tryz.func20, Tryz.ntmps20
 go_wp2_with (first | ((with_reducible refine Ay (N := 2) rfl ?_); refine Be zr (N := 2) zr (cs := #[.slice none 0 0]) (t := 26) zg ?_; intro gb101 hg w4 hbox hb; have n_ := y4 (Ab (zB) hb) (hbox) ((zS hg : w.heap.size ≤ gb101)) ((zS hg : w.heap.size ≤ gb101)); clear HB; obtain ⟨HB, BK101, GW101, GE101⟩ := n_; clear hb hbox hg) | (refine gK 25 ?_; refine gL 4 Tryz.func25 #[.slice A0 l0.length c0] ?_; (with_reducible refine (Bj.calls k _ _ l0 t102 t103 t104 w _ ?side1 HR0.out HC0.out A2.out).mono ?_); (case side1 => exact zB); rintro e w5 ⟨g105, rfl, hi, hb, hb2⟩; refine ⟨_, rfl, ?_⟩; have n_ := y5 (zb BK101.out hb2) (hb) (hi) (Af.ne_blk hi (zb BK101.out hb2) (by decide)) (Ne.symm (Af.ne_blk hi (zb BK101.out hb2) (by decide))); clear BK101 HB; obtain ⟨BK101, HB, HI105, NB105_101, NB101_105⟩ := n_; (try clear hi hb hb2)) | (refine gK 66 ?_; refine gL 5 Tryz.func66 #[.pointer (some ⟨g105, 0, none⟩)] ?_; (with_reducible refine (Ft.calls k g105 t102 t103 t104 t106 t109 t110 w _ ?side1 ?side2 A3.out).mono ?_); (case side1 => exact zX HI105.out); (case side2 => exact zB); rintro e w6 ⟨v107, rfl, ho0, hi, hb, hk⟩; refine ⟨_, rfl, ?_⟩; have n_ := y4 (zW BK101.out hk NB101_105.out) (Kd.Bk ho0 (An (zB))) (hb) (hi); clear BK101 HB HI105; obtain ⟨BK101, HO108, HB, HI105⟩ := n_; (try clear ho0 hi hb hk); obtain ⟨Ao7, co7, eo7⟩ := Kd.Bb HO108.out; subst eo7; have hnb8 := NB101_105.out; have hnc8 := NB105_101.out; obtain ⟨hcz9_0, hfz9_0⟩ := zw BK101.out))
 refine bodyPost_ret (results_cell_row rfl _ _ gb101 26 #[.slice Ao7 t106.length co7] (0, 0) _ rfl (by (with_reducible repeat (first | refine Am ?_ _ | refine Ag ?_ | refine Ak ?_ _)); refine Cl (cs := #[.slice none 0 0]) ?_ 0 _ rfl; (with_reducible repeat (first | refine Am ?_ _ | refine Ag ?_ | refine Ak ?_ _)); exact BK101.out) Tryz.underlying26 rfl zk) rfl ?_
 exact ⟨_, zE, by refine zR ?_; exact Kd.Ai (Kd.Dv (p := ⟨gb101, 0, none⟩) (Kd.Cj HO108.out BK101.out (by decide)) (fun _ hk => hk.2) (.slice Ao7 t106.length co7)) (fun _ hk => trivial), zB⟩
def Da.f (k : Nat) (l0_0 : List Int) : Option (Int × Int × Int) := (Dg.f l0_0 true).bind fun t102 => (if t102 = 0 then ((Ba.f k l0_0).bind fun t103 => ((Bl.f k l0_0).bind fun t104 => (some (t103, t104, 0)))) else (some (0, 0, t102)))
theorem Da.mono : ∀ a0 k, LeO (Da.f k a0) (Da.f (k + 1) a0) := by
 intro a0 k
 unfold Da.f
 repeat' first | (with_reducible first | exact Bl.mono _ _ | exact Ba.mono _ _ | exact LeO.refl _ | exact LeO.none _ | refine LeO.ite ?_ ?_ | refine LeO.bind ?_ (fun _ => ?_)) | exact Bl.mono _ _ | exact Ba.mono _ _ | exact LeO.none _ | refine LeO.ite ?_ ?_ | refine LeO.bind ?_ (fun _ => ?_)
def Da.T4 : Bool × List (List Nat × List Nat) := (true, [([], []), ([0], [0]), ([1], [1]), ([], []), ([3, 2], [3]), ([2, 4, 0, 1, 2], [2]), ([4, 5, 0, 1, 2, 3, 4, 5], [4]), ([6, 0, 1, 2, 3, 4, 5, 6], [])])
def Da.B4 : List Nat := [0, 1, 3, 0, 15, 31, 63, 127]
theorem Da.tab4 : rtab .any (Lz Tryz.f21 4) = Da.T4 := by kernel_rfl
theorem Da.bits4 : Gh Da.T4.2 Da.B4 = true := by kernel_rfl
theorem Da.calls (k : Nat) (A0_0 : Option Addr) (c0_0 : Nat) (l0_0 : List Int) (r1 : Int) (r2 : Int) (r3 : Int) (w : World) (hr0_0 : Kd.C (Kd.int .i64) w A0_0 l0_0.length l0_0) (hc0_0 : l0_0.length ≤ c0_0) (h : Da.f k l0_0 = some (r1, r2, r3)) :
    Calls Tryz.prog 21 #[.agg #[.slice A0_0 l0_0.length c0_0]] w fun e w' => e = .returned (.tuple #[.int .i64 r1, .int .i64 r2, .int .i64 r3]) ∧ Below w.heap.size w w' := by
 have hu26 := Tryz.underlying26
 have HR0_0 := Aa.mk hr0_0
 have HC0_0 := Aa.mk hc0_0
 clear hr0_0 hc0_0
 have HB := Aa.mk (Below.refl w.heap.size w)
 have H := h
 clear h
 unfold Da.f at H
 obtain ⟨t102, A2, H⟩ := zO H
 try dsimp only at H
 by_cases c3 : t102 = 0
 case neg =>
  rw [if_neg c3] at H
  have c3b0 : (t102 == 0) = false := beq_eq_false_iff_ne.mpr c3
  have c3b1 : (t102 != 0) = true := bne_iff_ne.mpr c3
  simp only [Option.some.injEq, Prod.mk.injEq] at H
  obtain ⟨rfl, rfl, rfl⟩ := H
  go_enter Tryz.func21, Tryz.ntmps21
  go_wp2_with (first | ((with_reducible refine Ay (N := 1) rfl ?_); refine Be zr (N := 1) zr (cs := #[.slice A0_0 l0_0.length c0_0]) (t := 26) zg ?_; intro gb101 hg w12 hbox hb; have n_ := y4 (Ab (zB) hb) (hbox) ((zS hg : w.heap.size ≤ gb101)) ((zS hg : w.heap.size ≤ gb101)); clear HB; obtain ⟨HB, BK101, GW101, GE101⟩ := n_; clear hb hbox hg; obtain ⟨hcz13_0, hfz13_0⟩ := zw BK101.out) | (refine gK 31 ?_; refine gL 7 Tryz.func31 #[.agg #[.slice A0_0 l0_0.length c0_0], .bool true] ?_; (with_reducible refine (Dg.calls _ _ l0_0 true t102 _ ?side1 HC0_0.out A2.out).mono ?_); (case side1 => exact zC (Kd.Bh HR0_0.out HB.out)); rintro e w14 ⟨rfl, hb⟩; refine ⟨_, rfl, ?_⟩; have n_ := y2 (zb BK101.out hb) (Ab (zB) hb); clear BK101 HB; obtain ⟨BK101, HB⟩ := n_; (try clear hb)))
  go_ret3
  exact ⟨zE, zB⟩
 rw [if_pos c3] at H
 have c3b0 : (t102 == 0) = true := beq_iff_eq.mpr c3
 have c3b1 : (t102 != 0) = false := bne_eq_false_iff_eq.mpr c3
 clear c3
 obtain ⟨t103, A4, H⟩ := zO H
 try dsimp only at H
 obtain ⟨t104, A5, H⟩ := zO H
 try dsimp only at H
 simp only [Option.some.injEq, Prod.mk.injEq] at H
 obtain ⟨rfl, rfl, rfl⟩ := H
 go_enter Tryz.func21, Tryz.ntmps21
 try go_wp2_with (first | ((with_reducible refine Ay (N := 1) rfl ?_); refine Be zr (N := 1) zr (cs := #[.slice A0_0 l0_0.length c0_0]) (t := 26) zg ?_; intro gb101 hg w6 hbox hb; have n_ := y4 (Ab (zB) hb) (hbox) ((zS hg : w.heap.size ≤ gb101)) ((zS hg : w.heap.size ≤ gb101)); clear HB; obtain ⟨HB, BK101, GW101, GE101⟩ := n_; clear hb hbox hg; obtain ⟨hcz7_0, hfz7_0⟩ := zw BK101.out) | (refine gK 31 ?_; refine gL 7 Tryz.func31 #[.agg #[.slice A0_0 l0_0.length c0_0], .bool true] ?_; (with_reducible refine (Dg.calls _ _ l0_0 true t102 _ ?side1 HC0_0.out A2.out).mono ?_); (case side1 => exact zC (Kd.Bh HR0_0.out HB.out)); rintro e w8 ⟨rfl, hb⟩; refine ⟨_, rfl, ?_⟩; have n_ := y2 (zb BK101.out hb) (Ab (zB) hb); clear BK101 HB; obtain ⟨BK101, HB⟩ := n_; (try clear hb)))
 have n_ := y2 (Ag BK101.out) (Bz HB.out)
 clear BK101 HB
 obtain ⟨BK101, HB⟩ := n_
 refine Fg (n := 8) (S := fun w' => w'.cell? ⟨gb101, 0, none⟩ = some (.slice A0_0 l0_0.length c0_0)) (ds := []) #[false,false,false,false,false,false,false,false] zk rfl rfl ((Au BK101.out 0).trans rfl) (fun hHeld => ?_); refine Eh Da.tab4 Da.bits4 (fun HT_ HW_ => ?_)
 generalize w8.drew = w9 at BK101 HB hHeld ⊢
 refine pT 0 11 HT_ ?_
 refine tT 1 12 HT_ HW_ hHeld ?_
 refine tT 3 14 HT_ HW_ hHeld ?_
 refine Fk (i := 2) (N := some 13) #[true,true,true,true,false,false,false,false] rfl rfl (Db HT_.out zk) (by decide) (fun K hK => ?_)
 refine Ff Tryz.func38 zk rfl #[.slice A0_0 l0_0.length c0_0] (by rfl) rfl rfl zA ?_
 with_reducible refine (Ba.calls k _ _ l0_0 t103 _ ?side1 ?side2 A4.out).mono ?_
 (case side1 => exact zC (Kd.Bh HR0_0.out HB.out))
 (case side2 => exact HC0_0.out)
 rintro e w10 ⟨rfl, hb⟩
 refine ⟨_, rfl, ?_⟩
 have n_ := y2 (zb BK101.out hb) (Ab (zB) hb)
 clear BK101 HB
 obtain ⟨BK101, HB⟩ := n_
 try clear hb
 refine hK.out _ _ ((Au BK101.out 0).trans rfl) (fun hHeld => ?_)
 clear hK K
 refine nT 13 ?_
 refine Fk (i := 4) (N := some 15) #[true,true,true,true,true,false,false,false] rfl rfl (Db HT_.out zk) (by decide) (fun K hK => ?_)
 refine Ff Tryz.func67 zk rfl #[.agg #[.slice A0_0 l0_0.length c0_0]] (by rfl) rfl rfl zA ?_
 with_reducible refine (Bl.calls k _ _ l0_0 t104 _ ?side1 ?side2 A5.out).mono ?_
 (case side1 => exact zC (Kd.Bh HR0_0.out HB.out))
 (case side2 => exact HC0_0.out)
 rintro e w11 ⟨rfl, hb⟩
 refine ⟨_, rfl, ?_⟩
 have n_ := y2 (zb BK101.out hb) (Ab (zB) hb)
 clear BK101 HB
 obtain ⟨BK101, HB⟩ := n_
 try clear hb
 refine hK.out _ _ ((Au BK101.out 0).trans rfl) (fun hHeld => ?_)
 clear hK K
 refine nT 15 ?_
 refine pT 5 2 HT_ ?_
 refine pT 6 3 HT_ ?_
 refine pT 7 4 HT_ ?_
 refine Gf (Fo HT_.out zk) ?_
 try go_wp2
 go_ret3
 exact ⟨zE, zB⟩
def Fu.f (k : Nat) (a0 : Int) (a1 : Int) : Option (Int) := (Df.f k a0 a1).bind fun t101 => (if t101 = 0 then (none) else (some (wrap64 ((wrap64 (Int.tdiv a0 t101)) * a1))))
theorem Fu.mono : ∀ a0 a1 k, LeO (Fu.f k a0 a1) (Fu.f (k + 1) a0 a1) := by
 intro a0 a1 k
 unfold Fu.f
 repeat' first | (with_reducible first | exact Df.mono _ _ _ | exact LeO.refl _ | exact LeO.none _ | refine LeO.ite ?_ ?_ | refine LeO.bind ?_ (fun _ => ?_)) | exact Df.mono _ _ _ | exact LeO.none _ | refine LeO.ite ?_ ?_ | refine LeO.bind ?_ (fun _ => ?_)
theorem Fu.calls (k : Nat) (a0 : Int) (a1 : Int) (r : Int) (w : World) (h : Fu.f k a0 a1 = some r) :
    Calls Tryz.prog 68 #[.int .i64 a0, .int .i64 a1] w fun e w' => e = .returned (.int .i64 r) ∧ Ct w w' := by
 have H := h
 clear h
 unfold Fu.f at H
 obtain ⟨t101, A3, H⟩ := zO H
 try dsimp only at H
 by_cases c4 : t101 = 0
 ·
  rw [if_pos c4] at H
  exact absurd H (by simp)
 rw [if_neg c4] at H
 have c4b0 : (t101 == 0) = false := beq_eq_false_iff_ne.mpr c4
 have c4b1 : (t101 != 0) = true := bne_iff_ne.mpr c4
 obtain rfl := Option.some.inj H
 go_enter Tryz.func68, Tryz.ntmps68
 go_wp2_with (first | (refine gK 65 ?_; refine gL 8 Tryz.func65 #[.int .i64 a0, .int .i64 a1] ?_; (with_reducible refine (Df.calls k a0 a1 t101 _ A3.out).mono ?_); rintro e w' ⟨rfl, ⟨nd, rfl⟩⟩; refine ⟨_, rfl, ?_⟩))
 go_ret
 exact ⟨by first | rfl | (simp; done) | (simp [*]; done), by repeat (first | exact Ct.refl _ | apply Ct.step)⟩
def Ch.l0 : Nat → Int → Int → Int → List Int → Option (Int × Int × Int)
 | 0, _, _, _, _ => none
 | k + 1, x5, x6, x7, x102000 => if x7 < (x102000.length : Int) then (if 0 ≤ x7 then ((Fu.f k x6 (rd x102000 x7)).bind fun t106 => (Ch.l0 k (mn x5 (rd x102000 x7)) t106 (wrap64 (x7 + 1)) x102000)) else (none)) else (some (x5, x6, 0))
def Ch.f (k : Nat) (l0_0 : List Int) : Option (Int × Int × Int) := (Cb.f k l0_0).bind fun t102 => (if t102 = true then (if 0 < (l0_0.length : Int) then (Ch.l0 k (rd l0_0 0) 1 0 l0_0) else (none)) else (some (0, 0, 1)))
theorem Ch.mono_l : ∀ k, (∀ y0 y1 y2 y3, LeO (Ch.l0 k y0 y1 y2 y3) (Ch.l0 (k + 1) y0 y1 y2 y3))
 | 0 => fun _ _ _ _ r h => by simp [Ch.l0] at h
 | k + 1 => by
  have ih0 := Ch.mono_l k
  ·
   intro y0 y1 y2 y3
   unfold Ch.l0
   repeat' first | (with_reducible first | exact ih0 _ _ _ _ | exact Cb.mono _ _ | exact Fu.mono _ _ _ | exact LeO.refl _ | exact LeO.none _ | refine LeO.ite ?_ ?_ | refine LeO.bind ?_ (fun _ => ?_)) | exact ih0 _ _ _ _ | exact Cb.mono _ _ | exact Fu.mono _ _ _ | exact LeO.none _ | refine LeO.ite ?_ ?_ | refine LeO.bind ?_ (fun _ => ?_)
theorem Ch.mono : ∀ a0 k, LeO (Ch.f k a0) (Ch.f (k + 1) a0) := by
 intro a0 k
 have ih0 := Ch.mono_l k
 unfold Ch.f
 repeat' first | (with_reducible first | exact ih0 _ _ _ _ | exact Cb.mono _ _ | exact Fu.mono _ _ _ | exact LeO.refl _ | exact LeO.none _ | refine LeO.ite ?_ ?_ | refine LeO.bind ?_ (fun _ => ?_)) | exact ih0 _ _ _ _ | exact Cb.mono _ _ | exact Fu.mono _ _ _ | exact LeO.none _ | refine LeO.ite ?_ ?_ | refine LeO.bind ?_ (fun _ => ?_)
theorem Ch.calls (k : Nat) (A0_0 : Option Addr) (c0_0 : Nat) (l0_0 : List Int) (r1 : Int) (r2 : Int) (r3 : Int) (w : World) (hr0_0 : Kd.C (Kd.int .i64) w A0_0 l0_0.length l0_0) (hc0_0 : l0_0.length ≤ c0_0) (h : Ch.f k l0_0 = some (r1, r2, r3)) :
    Calls Tryz.prog 22 #[.agg #[.slice A0_0 l0_0.length c0_0]] w fun e w' => e = .returned (.tuple #[.int .i64 r1, .int .i64 r2, .int .i64 r3]) ∧ Below w.heap.size w w' := by
 have hu26 := Tryz.underlying26
 have HR0_0 := Aa.mk hr0_0
 have HC0_0 := Aa.mk hc0_0
 clear hr0_0 hc0_0
 have HB := Aa.mk (Below.refl w.heap.size w)
 have H := h
 clear h
 unfold Ch.f at H
 obtain ⟨t102, A2, H⟩ := zO H
 try dsimp only at H
 by_cases c3 : t102 = true
 case neg =>
  replace c3 := Bool.eq_false_iff.mpr c3
  subst c3
  rw [if_neg zf] at H
  simp only [Option.some.injEq, Prod.mk.injEq] at H
  obtain ⟨rfl, rfl, rfl⟩ := H
  go_enter Tryz.func22, Tryz.ntmps22
  go_wp2_with (first | ((with_reducible refine Ay (N := 1) rfl ?_); refine Be zr (N := 1) zr (cs := #[.slice A0_0 l0_0.length c0_0]) (t := 26) zg ?_; intro gb101 hg w15 hbox hb; have n_ := y4 (Ab (zB) hb) (hbox) ((zS hg : w.heap.size ≤ gb101)) ((zS hg : w.heap.size ≤ gb101)); clear HB; obtain ⟨HB, BK101, GW101, GE101⟩ := n_; clear hb hbox hg; obtain ⟨hcz16_0, hfz16_0⟩ := zw BK101.out) | (refine gK 35 ?_; refine gL 9 Tryz.func35 #[.agg #[.slice A0_0 l0_0.length c0_0]] ?_; (with_reducible refine (Cb.calls k _ _ l0_0 false _ ?side1 HC0_0.out A2.out).mono ?_); (case side1 => exact zC (Kd.Bh HR0_0.out HB.out)); rintro e w17 ⟨rfl, hb⟩; refine ⟨_, rfl, ?_⟩; have n_ := y2 (zb BK101.out hb) (Ab (zB) hb); clear BK101 HB; obtain ⟨BK101, HB⟩ := n_; (try clear hb)))
  go_ret3
  exact ⟨zE, zB⟩
 subst c3
 rw [if_pos rfl] at H
 by_cases c4 : 0 < (l0_0.length : Int)
 case neg => rw [if_neg c4] at H; exact absurd H (by simp)
 rw [if_pos c4] at H
 have c4b0 := decide_eq_true c4
 have c4b1 : decide (0 < l0_0.length) = true := decide_eq_true (by omega)
 clear c4
 have H' := Aa.mk H
 clear H
 go_enter Tryz.func22, Tryz.ntmps22
 go_wp2_with (first | ((with_reducible refine Ay (N := 1) rfl ?_); refine Be zr (N := 1) zr (cs := #[.slice A0_0 l0_0.length c0_0]) (t := 26) zg ?_; intro gb101 hg w5 hbox hb; have n_ := y4 (Ab (zB) hb) (hbox) ((zS hg : w.heap.size ≤ gb101)) ((zS hg : w.heap.size ≤ gb101)); clear HB; obtain ⟨HB, BK101, GW101, GE101⟩ := n_; clear hb hbox hg; obtain ⟨hcz6_0, hfz6_0⟩ := zw BK101.out) | (refine gK 35 ?_; refine gL 9 Tryz.func35 #[.agg #[.slice A0_0 l0_0.length c0_0]] ?_; (with_reducible refine (Cb.calls k _ _ l0_0 true _ ?side1 HC0_0.out A2.out).mono ?_); (case side1 => exact zC (Kd.Bh HR0_0.out HB.out)); rintro e w7 ⟨rfl, hb⟩; refine ⟨_, rfl, ?_⟩; have n_ := y2 (zb BK101.out hb) (Ab (zB) hb); clear BK101 HB; obtain ⟨BK101, HB⟩ := n_; (try clear hb); obtain ⟨hcz8_0, hfz8_0⟩ := zw BK101.out; have p103 : 0 ≤ (0 : Int) := (by omega); have q103 : 0 < (l0_0.length : Int) := zD; obtain ⟨ad103, e103, hx103_0⟩ := Kd.Cv HR0_0.out 0 p103 q103; cases e103; have qi103 : (0 < l0_0.length) = True := eq_true (by omega); (try rw [show ((0 : Int)).toNat = 0 from rfl] at hx103_0); (try rw [Addr.add_zero'] at hx103_0); replace hx103_0 := (HB.out.cell (World.block_lt_of_cell? w _ hx103_0)).trans hx103_0; replace p103 := eq_true p103; replace q103 := eq_true q103))
 go_loopg [5, 6, 7] k (fun kq v5 v6 v7 w' => ∃ (x5_1 : Int) (x6_1 : Int) (x7_1 : Int), v5 = .int .i64 x5_1 ∧ v6 = .int .i64 x6_1 ∧ v7 = .int .i64 x7_1 ∧ Aa (Ch.l0 kq x5_1 x6_1 x7_1 l0_0 = some (r1, r2, r3)) ∧ Aa (kq ≤ k) ∧ Aa (w'.heap[gb101]? = some (.cells #[(.slice (some ad103) l0_0.length c0_0)] 26 (0, 0))) ∧ Aa (Below w.heap.size w w'))
 case atStart => exact ⟨(rd l0_0 0), (1), (0), zF, zF, zF, H', ⟨Nat.le_refl _⟩, ⟨zG BK101.out⟩, ⟨zB⟩⟩
 clear H'
 try clear c3
 try clear c4
 try clear c4b0
 try clear c4b1
 try clear hcz6_0
 try clear hcz8_0
 try clear hfz6_0
 try clear hfz8_0
 try clear hx103_0
 try clear p103
 try clear q103
 obtain ⟨x5_1, x6_1, x7_1, rfl, rfl, rfl, HA, HK1, BK101, HB⟩ := hrel
 cases gk with
 | zero => exact absurd HA.out (by simp [Ch.l0])
 | succ k1 =>
  have H := HA.out
  clear HA
  simp only [Ch.l0] at H
  by_cases c9 : x7_1 < (l0_0.length : Int)
  case neg =>
   rw [if_neg c9] at H
   have c9b0 := decide_eq_false c9
   clear c9
   simp only [Option.some.injEq, Prod.mk.injEq] at H
   obtain ⟨rfl, rfl, rfl⟩ := H
   obtain ⟨hcz14_0, hfz14_0⟩ := zw BK101.out
   go_wp2
   go_ret3
   exact ⟨zE, zB⟩
  rw [if_pos c9] at H
  have c9b0 := decide_eq_true c9
  clear c9
  by_cases c10 : 0 ≤ x7_1
  case neg => rw [if_neg c10] at H; exact absurd H (by simp)
  rw [if_pos c10] at H
  have c10b0 := decide_eq_true c10
  clear c10
  obtain ⟨ji11, hji11⟩ : ∃ j_ : Int, (mn x5_1 (rd l0_0 x7_1)) = j_ := ⟨_, rfl⟩
  replace H : ((Fu.f k1 x6_1 (rd l0_0 x7_1)).bind fun t106 => (Ch.l0 k1 ji11 t106 (wrap64 (x7_1 + 1)) l0_0)) = some (r1, r2, r3) := by first | (rw [hji11] at H; exact H) | (simp only [hji11] at H ⊢; exact H)
  have hji11_ : (if (rd l0_0 x7_1) < x5_1 then (rd l0_0 x7_1) else x5_1) = ji11 := hji11
  obtain ⟨t106, A12, H⟩ := zO H
  try dsimp only at H
  have H' := Aa.mk H
  clear H
  obtain ⟨hcz13_0, hfz13_0⟩ := zw BK101.out
  have p104 : 0 ≤ (x7_1 : Int) := zD
  have q104 : x7_1 < (l0_0.length : Int) := zD
  obtain ⟨ad104, e104, hx104_0⟩ := Kd.Cv HR0_0.out x7_1 p104 q104
  obtain rfl : ad103 = ad104 := (by injection e104)
  replace hx104_0 := (HB.out.cell (World.block_lt_of_cell? w _ hx104_0)).trans hx104_0
  replace p104 := eq_true p104
  replace q104 := eq_true q104
  have p105 : 0 ≤ (x7_1 : Int) := zD
  have q105 : x7_1 < (l0_0.length : Int) := zD
  obtain ⟨ad105, e105, hx105_0⟩ := Kd.Cv HR0_0.out x7_1 p105 q105
  obtain rfl : ad103 = ad105 := (by injection e105)
  replace hx105_0 := (HB.out.cell (World.block_lt_of_cell? w _ hx105_0)).trans hx105_0
  replace p105 := eq_true p105
  replace q105 := eq_true q105
  go_wp2_with (first | (refine gK 68 ?_; refine gL 35 Tryz.func68 #[.int .i64 x6_1, .int .i64 (rd l0_0 x7_1)] ?_; (with_reducible refine (Fu.calls k1 x6_1 (rd l0_0 x7_1) t106 _ A12.out).mono ?_); rintro e w' ⟨rfl, ⟨nd, rfl⟩⟩; refine ⟨_, rfl, ?_⟩))
  go_roundg k1
  case measure => have := HK1.out; omega
  case rel => exact ⟨(ji11), (t106), (wrap64 (x7_1 + 1)), (by first | rfl | (simp; done) | (simp only [← hji11] <;> (first | rfl | simp)) | (simp [*]; done)), zF, zF, H', ⟨by have := HK1.out; omega⟩, ⟨zG BK101.out⟩, ⟨zB⟩⟩
mutual
def Ad.j0 : Nat → List Int → Int → Int → Int → Bool → List Int → List Int → Option (Bool)
 | 0, _, _, _, _, _, _, _ => none
 | k + 1, x0, x4, x5, x7, x87, x108000, x113000 => if x87 = true then (some false) else (if x7 = 0 then ((Ci.f k x113000).bind fun bt119 => (if bt119.2.2 = 0 then ((Dm.f k bt119.1 x4 2).bind fun bt124 => (if bt124.2 = 0 then ((some (([] : List Int) : List Int)).bind fun y128 => (if 0 ≤ x5 then (if x5 ≤ (x108000.length : Int) then ((some (x108000.take (x5 : Int).toNat : List Int)).bind fun y131 => (if y128.length + y131.length < 17592186044416 then ((some (y128 ++ y131 : List Int)).bind fun y135 => (if 0 ≤ (wrap64 (x5 + 1)) then (if (wrap64 (x5 + 1)) ≤ (x108000.length : Int) then ((some (x108000.drop ((wrap64 (x5 + 1)) : Int).toNat : List Int)).bind fun y138 => (if y135.length + y138.length < 17592186044416 then ((some (y135 ++ y138 : List Int)).bind fun y142 => (if x5 < (x108000.length : Int) then (if y142.length < 17592186044416 then ((Dy.f k (y142 ++ [rd x108000 x5]) bt124.1).bind fun bt149 => (if bt149.2 = 0 then (if bt149.1 = true then (Ad.j1 k x0) else (some false)) else (some false))) else (none)) else (none))) else (none))) else (none)) else (none))) else (none))) else (none)) else (none))) else (Ad.j1 k x0))) else (Ad.j1 k x0))) else (Ad.j1 k x0))
def Ad.j1 : Nat → List Int → Option (Bool)
 | 0, _ => none
 | k + 1, x0 => (Dw.f k x0).bind fun bt151 => ((Bi.f k bt151.1 bt151.2).bind fun bt155 => ((Bo.f k bt151.1 bt151.2).bind fun bt160 => (if bt155.2 = bt160.2 then ((Fp.f k bt155.1 bt160.1).bind fun t165 => (Ad.j2 k x0 bt151.1 bt155.2 (!t165) bt155.1)) else (Ad.j2 k x0 bt151.1 bt155.2 true bt155.1))))
def Ad.j2 : Nat → List Int → List Int → Int → Bool → List Int → Option (Bool)
 | 0, _, _, _, _, _ => none
 | k + 1, x0, x18, x21, x163, x160000 => if x163 = true then (some false) else (if x21 = 0 then ((Dy.f k x160000 x18).bind fun bt166 => (if bt166.2 = 0 then (Ad.j3 k x0 x18 (!bt166.1) x160000) else (Ad.j3 k x0 x18 true x160000))) else (Ad.j5 k x0))
def Ad.j5 : Nat → List Int → Option (Bool)
 | 0, _ => none
 | k + 1, x0 => (Ar.f k x0).bind fun bt179 => ((Dh.f k bt179.1 bt179.2).bind fun bt187 => ((Cn.f k bt179.1 bt179.2).bind fun bt189 => ((Bq.f k x0).bind fun bt191 => ((Dm.f k bt191.1 bt191.2.1 bt191.2.2).bind fun bt196 => ((Aj.f k bt191.1 bt191.2.1 bt191.2.2).bind fun bt200 => ((Dq.f k x0).bind fun t204 => ((Da.f k t204).bind fun bt208 => ((Ch.f k t204).bind fun bt211 => (if bt187.2 = bt189.2 then (if (bt187.1 != bt189.1) = true then (Ad.j6 k bt187.1 true bt179.1 bt179.2) else (if bt196.2 = bt200.2 then ((Cs.f k bt196.1 bt200.1).bind fun t214 => (if t214 = true then (if bt208.2.2 = bt211.2.2 then (if bt208.1 = bt211.1 then (Ad.j6 k bt187.1 (bt208.2.1 != bt211.2.1) bt179.1 bt179.2) else (Ad.j6 k bt187.1 true bt179.1 bt179.2)) else (Ad.j6 k bt187.1 true bt179.1 bt179.2)) else (Ad.j6 k bt187.1 true bt179.1 bt179.2))) else (Ad.j6 k bt187.1 true bt179.1 bt179.2))) else (Ad.j6 k bt187.1 true bt179.1 bt179.2))))))))))
def Ad.j6 : Nat → Bool → Bool → List Int → List Int → Option (Bool)
 | 0, _, _, _, _ => none
 | k + 1, x32, x297, x186000, x187000 => if x297 = true then (some false) else (if x32 = true then ((Et.f k x186000).bind fun bt215 => ((Et.f k x187000).bind fun bt223 => (if bt215.2.2 = 0 then (if bt223.2.2 = 0 then (if (bt223.1.length : Int) = (x187000.length : Int) then (if (bt215.1.length : Int) = (x186000.length : Int) then (Ad.j7 k (decide ((bt215.1.length : Int) < (bt223.1.length : Int))) bt215.1 bt223.1) else (Ad.j7 k true bt215.1 bt223.1)) else (Ad.j7 k true bt215.1 bt223.1)) else (Ad.j7 k true bt215.1 bt223.1)) else (Ad.j7 k true bt215.1 bt223.1)))) else (some true))
def Ad.j7 : Nat → Bool → List Int → List Int → Option (Bool)
 | 0, _, _, _ => none
 | k + 1, x343, x223000, x231000 => if x343 = true then (some false) else (Ad.l1 k (x231000.length : Int) 0 x223000 x231000)
def Ad.l1 : Nat → Int → Int → List Int → List Int → Option (Bool)
 | 0, _, _, _, _ => none
 | k + 1, x346, x347, x223000, x231000 => if x347 < x346 then (if 0 ≤ x347 then (if x347 < (x231000.length : Int) then (if x347 < (x223000.length : Int) then (if (rd x231000 x347) < (rd x223000 x347) then (some false) else (Ad.l1 k x346 (wrap64 (x347 + 1)) x223000 x231000)) else (none)) else (none)) else (none)) else (some true)
def Ad.j3 : Nat → List Int → List Int → Bool → List Int → Option (Bool)
 | 0, _, _, _, _ => none
 | k + 1, x0, x18, x177, x160000 => if x177 = true then (some false) else (Ad.l0 k x0 x18 (x160000.length : Int) 0 x160000)
def Ad.l0 : Nat → List Int → List Int → Int → Int → List Int → Option (Bool)
 | 0, _, _, _, _, _ => none
 | k + 1, x0, x18, x180, x181, x160000 => if x181 < x180 then (if 0 ≤ x181 then (if x181 < (x160000.length : Int) then (if (rd x160000 x181) > 1 then ((some (([] : List Int) : List Int)).bind fun y169 => (if y169.length + x160000.length < 17592186044416 then ((some (y169 ++ x160000 : List Int)).bind fun y172 => (if x181 < (y172.length : Int) then ((Dy.f k (y172.set (x181 : Int).toNat (wrap64 ((rd y172 x181) - 1))) x18).bind fun bt177 => (if bt177.2 = 0 then (if bt177.1 = true then (some false) else (Ad.l0 k x0 x18 x180 (wrap64 (x181 + 1)) x160000)) else (some false))) else (none))) else (none))) else (Ad.l0 k x0 x18 x180 (wrap64 (x181 + 1)) x160000)) else (none)) else (none)) else (Ad.j5 k x0)
end
def Ad.f (k : Nat) (l0 : List Int) : Option (Bool) := (Pf.f l0).bind fun t101 => (if t101 = true then (some true) else ((Cg.f k l0).bind fun bt102 => ((Bc.f k bt102.1 bt102.2.1 bt102.2.2).bind fun bt108 => ((Bp.f k bt102.1 bt102.2.1 bt102.2.2).bind fun bt113 => (if bt108.2 = bt113.2 then ((Fp.f k bt108.1 bt113.1).bind fun t118 => (Ad.j0 k l0 bt102.2.1 bt102.2.2 bt108.2 (!t118) bt102.1 bt108.1)) else (Ad.j0 k l0 bt102.2.1 bt102.2.2 bt108.2 true bt102.1 bt108.1))))))
theorem Ad.mono_l : ∀ k, (∀ y0 y1 y2 y3 y4 y5 y6, LeO (Ad.j0 k y0 y1 y2 y3 y4 y5 y6) (Ad.j0 (k + 1) y0 y1 y2 y3 y4 y5 y6)) ∧ (∀ y0, LeO (Ad.j1 k y0) (Ad.j1 (k + 1) y0)) ∧ (∀ y0 y1 y2 y3 y4, LeO (Ad.j2 k y0 y1 y2 y3 y4) (Ad.j2 (k + 1) y0 y1 y2 y3 y4)) ∧ (∀ y0, LeO (Ad.j5 k y0) (Ad.j5 (k + 1) y0)) ∧ (∀ y0 y1 y2 y3, LeO (Ad.j6 k y0 y1 y2 y3) (Ad.j6 (k + 1) y0 y1 y2 y3)) ∧ (∀ y0 y1 y2, LeO (Ad.j7 k y0 y1 y2) (Ad.j7 (k + 1) y0 y1 y2)) ∧ (∀ y0 y1 y2 y3, LeO (Ad.l1 k y0 y1 y2 y3) (Ad.l1 (k + 1) y0 y1 y2 y3)) ∧ (∀ y0 y1 y2 y3, LeO (Ad.j3 k y0 y1 y2 y3) (Ad.j3 (k + 1) y0 y1 y2 y3)) ∧ (∀ y0 y1 y2 y3 y4, LeO (Ad.l0 k y0 y1 y2 y3 y4) (Ad.l0 (k + 1) y0 y1 y2 y3 y4))
 | 0 => ⟨fun _ _ _ _ _ _ _ r h => by simp [Ad.j0] at h, fun _ r h => by simp [Ad.j1] at h, fun _ _ _ _ _ r h => by simp [Ad.j2] at h, fun _ r h => by simp [Ad.j5] at h, fun _ _ _ _ r h => by simp [Ad.j6] at h, fun _ _ _ r h => by simp [Ad.j7] at h, fun _ _ _ _ r h => by simp [Ad.l1] at h, fun _ _ _ _ r h => by simp [Ad.j3] at h, fun _ _ _ _ _ r h => by simp [Ad.l0] at h⟩
 | k + 1 => by
  obtain ⟨ih0, ih1, ih2, ih3, ih4, ih5, ih6, ih7, ih8⟩ := Ad.mono_l k
  refine ⟨?_, ?_, ?_, ?_, ?_, ?_, ?_, ?_, ?_⟩ <;> intros <;> (first | unfold Ad.j0 | unfold Ad.j1 | unfold Ad.j2 | unfold Ad.j5 | unfold Ad.j6 | unfold Ad.j7 | unfold Ad.l1 | unfold Ad.j3 | unfold Ad.l0) <;> repeat' first | (with_reducible first | exact ih0 _ _ _ _ _ _ _ | exact ih1 _ | exact ih2 _ _ _ _ _ | exact ih3 _ | exact ih4 _ _ _ _ | exact ih5 _ _ _ | exact ih6 _ _ _ _ | exact ih7 _ _ _ _ | exact ih8 _ _ _ _ _ | exact Dh.mono _ _ _ | exact Dm.mono _ _ _ _ | exact Dy.mono _ _ _ | exact Bc.mono _ _ _ _ | exact Bi.mono _ _ _ | exact Da.mono _ _ | exact Et.mono _ _ | exact Ci.mono _ _ | exact Cs.mono _ _ _ | exact Fp.mono _ _ _ | exact Cn.mono _ _ _ | exact Aj.mono _ _ _ _ | exact Ar.mono _ _ | exact Bq.mono _ _ | exact Cg.mono _ _ | exact Dw.mono _ _ | exact Dq.mono _ _ | exact Bp.mono _ _ _ _ | exact Bo.mono _ _ _ | exact Ch.mono _ _ | exact LeO.refl _ | exact LeO.none _ | refine LeO.ite ?_ ?_ | refine LeO.bind ?_ (fun _ => ?_)) | exact ih0 _ _ _ _ _ _ _ | exact ih1 _ | exact ih2 _ _ _ _ _ | exact ih3 _ | exact ih4 _ _ _ _ | exact ih5 _ _ _ | exact ih6 _ _ _ _ | exact ih7 _ _ _ _ | exact ih8 _ _ _ _ _ | exact Dh.mono _ _ _ | exact Dm.mono _ _ _ _ | exact Dy.mono _ _ _ | exact Bc.mono _ _ _ _ | exact Bi.mono _ _ _ | exact Da.mono _ _ | exact Et.mono _ _ | exact Ci.mono _ _ | exact Cs.mono _ _ _ | exact Fp.mono _ _ _ | exact Cn.mono _ _ _ | exact Aj.mono _ _ _ _ | exact Ar.mono _ _ | exact Bq.mono _ _ | exact Cg.mono _ _ | exact Dw.mono _ _ | exact Dq.mono _ _ | exact Bp.mono _ _ _ _ | exact Bo.mono _ _ _ | exact Ch.mono _ _ | exact LeO.none _ | refine LeO.ite ?_ ?_ | refine LeO.bind ?_ (fun _ => ?_)
theorem Ad.mono : ∀ a0 k, LeO (Ad.f k a0) (Ad.f (k + 1) a0) := by
 intro a0 k
 obtain ⟨ih0, ih1, ih2, ih3, ih4, ih5, ih6, ih7, ih8⟩ := Ad.mono_l k
 unfold Ad.f
 repeat' first | (with_reducible first | exact ih0 _ _ _ _ _ _ _ | exact ih1 _ | exact ih2 _ _ _ _ _ | exact ih3 _ | exact ih4 _ _ _ _ | exact ih5 _ _ _ | exact ih6 _ _ _ _ | exact ih7 _ _ _ _ | exact ih8 _ _ _ _ _ | exact Dh.mono _ _ _ | exact Dm.mono _ _ _ _ | exact Dy.mono _ _ _ | exact Bc.mono _ _ _ _ | exact Bi.mono _ _ _ | exact Da.mono _ _ | exact Et.mono _ _ | exact Ci.mono _ _ | exact Cs.mono _ _ _ | exact Fp.mono _ _ _ | exact Cn.mono _ _ _ | exact Aj.mono _ _ _ _ | exact Ar.mono _ _ | exact Bq.mono _ _ | exact Cg.mono _ _ | exact Dw.mono _ _ | exact Dq.mono _ _ | exact Bp.mono _ _ _ _ | exact Bo.mono _ _ _ | exact Ch.mono _ _ | exact LeO.refl _ | exact LeO.none _ | refine LeO.ite ?_ ?_ | refine LeO.bind ?_ (fun _ => ?_)) | exact ih0 _ _ _ _ _ _ _ | exact ih1 _ | exact ih2 _ _ _ _ _ | exact ih3 _ | exact ih4 _ _ _ _ | exact ih5 _ _ _ | exact ih6 _ _ _ _ | exact ih7 _ _ _ _ | exact ih8 _ _ _ _ _ | exact Dh.mono _ _ _ | exact Dm.mono _ _ _ _ | exact Dy.mono _ _ _ | exact Bc.mono _ _ _ _ | exact Bi.mono _ _ _ | exact Da.mono _ _ | exact Et.mono _ _ | exact Ci.mono _ _ | exact Cs.mono _ _ _ | exact Fp.mono _ _ _ | exact Cn.mono _ _ _ | exact Aj.mono _ _ _ _ | exact Ar.mono _ _ | exact Bq.mono _ _ | exact Cg.mono _ _ | exact Dw.mono _ _ | exact Dq.mono _ _ | exact Bp.mono _ _ _ _ | exact Bo.mono _ _ _ | exact Ch.mono _ _ | exact LeO.none _ | refine LeO.ite ?_ ?_ | refine LeO.bind ?_ (fun _ => ?_)
def Ad.T13 : Bool × List (List Nat × List Nat) := (true, [([], []), ([], []), ([1], [1]), ([], []), ([2, 3], [2, 3]), ([0, 4], [0, 4]), ([], []), ([6], [6]), ([], []), ([8], [8]), ([7, 9], [7, 9]), ([5, 10, 5], [5, 10]), ([11, 11, 0, 1, 2, 3, 4, 5, 6, 7, 8, 9, 10, 11], [11])])
def Ad.B13 : List Nat := [0, 0, 2, 0, 14, 31, 0, 64, 0, 256, 960, 2047, 4095]
theorem Ad.tab13 : rtab .any (Lz Tryz.f3 13) = Ad.T13 := by kernel_rfl
theorem Ad.bits13 : Gh Ad.T13.2 Ad.B13 = true := by kernel_rfl
def Ad.T55 : Bool × List (List Nat × List Nat) := (true, [([], []), ([0], [0]), ([], []), ([1, 2], [1, 2]), ([3], [3]), ([], []), ([5], [5]), ([], []), ([6, 7], [6, 7]), ([8], [8]), ([4, 9], [4, 9])])
def Ad.B55 : List Nat := [0, 1, 0, 7, 15, 0, 32, 0, 224, 480, 1023]
theorem Ad.tab55 : rtab .any (Lz Tryz.f3 55) = Ad.T55 := by kernel_rfl
theorem Ad.bits55 : Gh Ad.T55.2 Ad.B55 = true := by kernel_rfl
end Go.Proofs.YtliepcfgcglcmaaGreat.P
end
